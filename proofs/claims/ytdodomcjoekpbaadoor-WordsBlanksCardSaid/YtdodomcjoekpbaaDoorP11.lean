/- Part of a proof (WF WG WH); no condition. -/
import Derived.Test.YtdodomcjoekpbaaDoorP10
set_option linter.unusedSimpArgs false
set_option linter.unusedVariables false
/- Words: strconv's numbers: how many digits, a pair of digits: the contracts. -/
namespace Go.Proofs.Wo
open Go.Abs Go.Abs.S
set_option linter.unusedSimpArgs false
variable {N : ANat}
theorem smalls_lit : smalls = [48, 48, 48, 49, 48, 50, 48, 51, 48, 52, 48, 53, 48, 54, 48, 55, 48, 56, 48, 57, 49, 48, 49, 49, 49, 50, 49, 51, 49, 52, 49, 53, 49, 54, 49, 55, 49, 56, 49, 57, 50, 48, 50, 49, 50, 50, 50, 51, 50, 52, 50, 53, 50, 54, 50, 55, 50, 56, 50, 57, 51, 48, 51, 49, 51, 50, 51, 51, 51, 52, 51, 53, 51, 54, 51, 55, 51, 56, 51, 57, 52, 48, 52, 49, 52, 50, 52, 51, 52, 52, 52, 53, 52, 54, 52, 55, 52, 56, 52, 57, 53, 48, 53, 49, 53, 50, 53, 51, 53, 52, 53, 53, 53, 54, 53, 55, 53, 56, 53, 57, 54, 48, 54, 49, 54, 50, 54, 51, 54, 52, 54, 53, 54, 54, 54, 55, 54, 56, 54, 57, 55, 48, 55, 49, 55, 50, 55, 51, 55, 52, 55, 53, 55, 54, 55, 55, 55, 56, 55, 57, 56, 48, 56, 49, 56, 50, 56, 51, 56, 52, 56, 53, 56, 54, 56, 55, 56, 56, 56, 57, 57, 48, 57, 49, 57, 50, 57, 51, 57, 52, 57, 53, 57, 54, 57, 55, 57, 56, 57, 57] := by kernel_rfl
theorem small_at {d : Nat} (h : d < 100) (k : IntKind) : aIdxS (.str smalls) (.int k ((d * 2 : Nat) : Int)) = some (.int .u8 ((48 + d / 10 : Nat) : Int)) := by
  rw [str_idx (small_hi h)]
  have : (UInt8.ofNat (48 + d / 10)).toNat = 48 + d / 10 := by rw [UInt8.toNat_ofNat']; omega
  rw [this]
theorem small_at1 {d : Nat} (h : d < 100) (k : IntKind) : aIdxS (.str smalls) (.int k ((d * 2 + 1 : Nat) : Int)) = some (.int .u8 ((48 + d % 10 : Nat) : Int)) := by
  rw [str_idx (small_lo h)]
  have : (UInt8.ofNat (48 + d % 10)).toNat = 48 + d % 10 := by rw [UInt8.toNat_ofNat']; omega
  rw [this]
theorem small_sl {d : Nat} (h : d < 100) : aSlStr (.str smalls) (some (.int .i64 ((d * 2 : Nat) : Int))) (some (.int .i64 ((d * 2 + 2 : Nat) : Int))) = some (.str [UInt8.ofNat (48 + d / 10), UInt8.ofNat (48 + d % 10)]) := by
  have hl : smalls.length = 200 := by kernel_rfl
  rw [str_sl (by omega) (by omega)]
  have : ∀ d, d < 100 → (smalls.drop (d * 2)).take 2 = [UInt8.ofNat (48 + d / 10), UInt8.ofNat (48 + d % 10)] := of_decide_eq_true (by kernel_rfl)
  rw [show d * 2 + 2 - d * 2 = 2 by omega, this d h]
def tens : Bs := [48, 49, 50, 51, 52, 53, 54, 55, 56, 57, 97, 98, 99, 100, 101, 102, 103, 104, 105, 106, 107, 108, 109, 110, 111, 112, 113, 114, 115, 116, 117, 118, 119, 120, 121, 122]
theorem tens_sl {d : Nat} (h : d < 10) : aSlStr (.str tens) (some (.int .i64 (d : Int))) (some (.int .i64 ((d + 1 : Nat) : Int))) = some (.str [UInt8.ofNat (48 + d)]) := by
  have hl : tens.length = 36 := by decide
  rw [str_sl (by omega) (by omega)]
  have : ∀ d, d < 10 → (tens.drop d).take 1 = [UInt8.ofNat (48 + d)] := by decide
  rw [show d + 1 - d = 1 by omega, this d h]
theorem lit_tens : tens = [48, 49, 50, 51, 52, 53, 54, 55, 56, 57, 97, 98, 99, 100, 101, 102, 103, 104, 105, 106, 107, 108, 109, 110, 111, 112, 113, 114, 115, 116, 117, 118, 119, 120, 121, 122] := rfl
set_option maxRecDepth 100000 in
theorem small_spec (h77 : N.is 77 = false) {d : Nat} (hd : d < 100) {H : AHeap} :
    ACalls Tryd.prog N 77 [.int .i64 (d : Int)] H fun v H' => v = .str (asc (decD d)) ∧ H' = H := by
  refine acalls_ofN h77 za77 rfl ?_
  simp only [c77, ← smalls_lit, ← lit_tens]
  by_cases h : d < 10
  · have h' : (d : Int) < 10 := by omega
    simp only [pf_min, undef_bool, str_len, str_eql, str_neq, conv_in, un_not, eq_self, decide_true, decide_false, Bool.not_true, Bool.not_false, argE_0, argE_1, argE_2, argE_3, argE_4, aw_skip, aw_reg, aw_seq, aw_cond, aw_block, aw_exit, aw_ret, inSeq_normal, inSeq_exit, inSeq_ret, inBlk_exit, inBlk_normal, inBlk_ret, OptK_some, OptH_some, OptS_some, kont_app, ar_nil, ar_guard, ar_mv, ar_pick, ar_new, ar_box, ar_build, ar_buildSl, ar_load, ar_store, ar_nilChk, ar_bin, ar_un, ar_conv, ar_convSB, ar_convBS, ar_mkFunc, ar_mkIface, ar_mkSlice, ar_sl, ar_slStr, ar_fieldA, ar_field, ar_idxA, ar_idxArr, ar_idx, ar_idxS, ar_extract, ar_append, ar_len, ar_call, ar_callv, callvP_func, List.nil_append, List.cons_append, List.append_nil, ar_pf, ar_hf, ar_slA, upO_some, upO_none, sX_t, sX_c, sX_f, sXs, sXO, sXP, fin_t, fin_t2, fin_t3, up_same, up_ne, ne_eq, not_false_eq_true, AVal.bool.injEq, decide_eq_true_eq, decide_eq_false_iff_not, Int.ofNat_eq_natCast, Int.reduceNegSucc, Int.cast_ofNat_Int, reduceCtorEq, bin_lss, bin_leq, bin_gtr, bin_geq, bin_eql, bin_neq, bin_add, bin_sub, bin_mul, Bool.not_eq_true', Bool.not_eq_false', Bool.true_eq_false, Bool.false_eq_true, Nat.reduceEqDiff, ↓reduceIte, if_true, if_false, Nat.reduceAdd, Int.reduceEq, Int.reduceLT, Int.reduceLE, h', wrap1 d (by omega), tens_sl h]
    exact ⟨by rw [decD_lt h]; rfl, by trivial⟩
  · have h' : ¬ (d : Int) < 10 := by omega
    have w1 : IntKind.i64.wrap ((d : Int) * 2) = ((d * 2 : Nat) : Int) := by rw [wrap64 (by omega) (by omega)]; omega
    have w2 : IntKind.i64.wrap (((d * 2 : Nat) : Int) + 2) = ((d * 2 + 2 : Nat) : Int) := by rw [wrap64 (by omega) (by omega)]; omega
    simp only [pf_min, undef_bool, str_len, str_eql, str_neq, conv_in, un_not, eq_self, decide_true, decide_false, Bool.not_true, Bool.not_false, argE_0, argE_1, argE_2, argE_3, argE_4, aw_skip, aw_reg, aw_seq, aw_cond, aw_block, aw_exit, aw_ret, inSeq_normal, inSeq_exit, inSeq_ret, inBlk_exit, inBlk_normal, inBlk_ret, OptK_some, OptH_some, OptS_some, kont_app, ar_nil, ar_guard, ar_mv, ar_pick, ar_new, ar_box, ar_build, ar_buildSl, ar_load, ar_store, ar_nilChk, ar_bin, ar_un, ar_conv, ar_convSB, ar_convBS, ar_mkFunc, ar_mkIface, ar_mkSlice, ar_sl, ar_slStr, ar_fieldA, ar_field, ar_idxA, ar_idxArr, ar_idx, ar_idxS, ar_extract, ar_append, ar_len, ar_call, ar_callv, callvP_func, List.nil_append, List.cons_append, List.append_nil, ar_pf, ar_hf, ar_slA, upO_some, upO_none, sX_t, sX_c, sX_f, sXs, sXO, sXP, fin_t, fin_t2, fin_t3, up_same, up_ne, ne_eq, not_false_eq_true, AVal.bool.injEq, decide_eq_true_eq, decide_eq_false_iff_not, Int.ofNat_eq_natCast, Int.reduceNegSucc, Int.cast_ofNat_Int, reduceCtorEq, bin_lss, bin_leq, bin_gtr, bin_geq, bin_eql, bin_neq, bin_add, bin_sub, bin_mul, Bool.not_eq_true', Bool.not_eq_false', Bool.true_eq_false, Bool.false_eq_true, Nat.reduceEqDiff, ↓reduceIte, if_true, if_false, Nat.reduceAdd, Int.reduceEq, Int.reduceLT, Int.reduceLE, h', w1, w2, small_sl hd]
    refine ⟨?_, by trivial⟩
    rw [decD_ge h, decD_lt (by omega)]; simp [asc]
theorem bool2_spec (h95 : N.is 95 = false) (b : Bool) {H : AHeap} :
    ACalls Tryd.prog N 95 [.bool b] H fun v H' => v = .int .i64 ((if b = true then 1 else 0 : Nat) : Int) ∧ H' = H := by
  refine acalls_ofN h95 za95 rfl ?_
  cases b with
  | true => simp only [c95, pf_min, undef_bool, str_len, str_eql, str_neq, conv_in, un_not, eq_self, decide_true, decide_false, Bool.not_true, Bool.not_false, argE_0, argE_1, argE_2, argE_3, argE_4, aw_skip, aw_reg, aw_seq, aw_cond, aw_block, aw_exit, aw_ret, inSeq_normal, inSeq_exit, inSeq_ret, inBlk_exit, inBlk_normal, inBlk_ret, OptK_some, OptH_some, OptS_some, kont_app, ar_nil, ar_guard, ar_mv, ar_pick, ar_new, ar_box, ar_build, ar_buildSl, ar_load, ar_store, ar_nilChk, ar_bin, ar_un, ar_conv, ar_convSB, ar_convBS, ar_mkFunc, ar_mkIface, ar_mkSlice, ar_sl, ar_slStr, ar_fieldA, ar_field, ar_idxA, ar_idxArr, ar_idx, ar_idxS, ar_extract, ar_append, ar_len, ar_call, ar_callv, callvP_func, List.nil_append, List.cons_append, List.append_nil, ar_pf, ar_hf, ar_slA, upO_some, upO_none, sX_t, sX_c, sX_f, sXs, sXO, sXP, fin_t, fin_t2, fin_t3, up_same, up_ne, ne_eq, not_false_eq_true, AVal.bool.injEq, decide_eq_true_eq, decide_eq_false_iff_not, Int.ofNat_eq_natCast, Int.reduceNegSucc, Int.cast_ofNat_Int, reduceCtorEq, bin_lss, bin_leq, bin_gtr, bin_geq, bin_eql, bin_neq, bin_add, bin_sub, bin_mul, Bool.not_eq_true', Bool.not_eq_false', Bool.true_eq_false, Bool.false_eq_true, Nat.reduceEqDiff, ↓reduceIte, if_true, if_false, Nat.reduceAdd, Int.reduceEq, Int.reduceLT, Int.reduceLE]; exact ⟨by trivial, by trivial⟩
  | false => simp only [c95, pf_min, undef_bool, str_len, str_eql, str_neq, conv_in, un_not, eq_self, decide_true, decide_false, Bool.not_true, Bool.not_false, argE_0, argE_1, argE_2, argE_3, argE_4, aw_skip, aw_reg, aw_seq, aw_cond, aw_block, aw_exit, aw_ret, inSeq_normal, inSeq_exit, inSeq_ret, inBlk_exit, inBlk_normal, inBlk_ret, OptK_some, OptH_some, OptS_some, kont_app, ar_nil, ar_guard, ar_mv, ar_pick, ar_new, ar_box, ar_build, ar_buildSl, ar_load, ar_store, ar_nilChk, ar_bin, ar_un, ar_conv, ar_convSB, ar_convBS, ar_mkFunc, ar_mkIface, ar_mkSlice, ar_sl, ar_slStr, ar_fieldA, ar_field, ar_idxA, ar_idxArr, ar_idx, ar_idxS, ar_extract, ar_append, ar_len, ar_call, ar_callv, callvP_func, List.nil_append, List.cons_append, List.append_nil, ar_pf, ar_hf, ar_slA, upO_some, upO_none, sX_t, sX_c, sX_f, sXs, sXO, sXP, fin_t, fin_t2, fin_t3, up_same, up_ne, ne_eq, not_false_eq_true, AVal.bool.injEq, decide_eq_true_eq, decide_eq_false_iff_not, Int.ofNat_eq_natCast, Int.reduceNegSucc, Int.cast_ofNat_Int, reduceCtorEq, bin_lss, bin_leq, bin_gtr, bin_geq, bin_eql, bin_neq, bin_add, bin_sub, bin_mul, Bool.not_eq_true', Bool.not_eq_false', Bool.true_eq_false, Bool.false_eq_true, Nat.reduceEqDiff, ↓reduceIte, if_true, if_false, Nat.reduceAdd, Int.reduceEq, Int.reduceLT, Int.reduceLE]; exact ⟨by trivial, by trivial⟩
theorem log10_spec (h93 : N.is 93 = false) {x : Nat} (hx : x ≤ 64) {H : AHeap} :
    ACalls Tryd.prog N 93 [.int .i64 (x : Int)] H fun v H' => v = .int .i64 ((x * 78913 / 262144 : Nat) : Int) ∧ H' = H := by
  refine acalls_ofN h93 za93 rfl ?_
  have w1 : IntKind.i64.wrap ((x : Int) * 78913) = ((x * 78913 : Nat) : Int) := by rw [wrap64 (by omega) (by omega)]; omega
  have e1 := shrN .i64 .u64 (x * 78913) (b := 18) (by decide)
  simp only [Int.cast_ofNat_Int] at e1
  simp only [c93, pf_min, undef_bool, str_len, str_eql, str_neq, conv_in, un_not, eq_self, decide_true, decide_false, Bool.not_true, Bool.not_false, argE_0, argE_1, argE_2, argE_3, argE_4, aw_skip, aw_reg, aw_seq, aw_cond, aw_block, aw_exit, aw_ret, inSeq_normal, inSeq_exit, inSeq_ret, inBlk_exit, inBlk_normal, inBlk_ret, OptK_some, OptH_some, OptS_some, kont_app, ar_nil, ar_guard, ar_mv, ar_pick, ar_new, ar_box, ar_build, ar_buildSl, ar_load, ar_store, ar_nilChk, ar_bin, ar_un, ar_conv, ar_convSB, ar_convBS, ar_mkFunc, ar_mkIface, ar_mkSlice, ar_sl, ar_slStr, ar_fieldA, ar_field, ar_idxA, ar_idxArr, ar_idx, ar_idxS, ar_extract, ar_append, ar_len, ar_call, ar_callv, callvP_func, List.nil_append, List.cons_append, List.append_nil, ar_pf, ar_hf, ar_slA, upO_some, upO_none, sX_t, sX_c, sX_f, sXs, sXO, sXP, fin_t, fin_t2, fin_t3, up_same, up_ne, ne_eq, not_false_eq_true, AVal.bool.injEq, decide_eq_true_eq, decide_eq_false_iff_not, Int.ofNat_eq_natCast, Int.reduceNegSucc, Int.cast_ofNat_Int, reduceCtorEq, bin_lss, bin_leq, bin_gtr, bin_geq, bin_eql, bin_neq, bin_add, bin_sub, bin_mul, Bool.not_eq_true', Bool.not_eq_false', Bool.true_eq_false, Bool.false_eq_true, Nat.reduceEqDiff, ↓reduceIte, if_true, if_false, Nat.reduceAdd, Int.reduceEq, Int.reduceLT, Int.reduceLE, w1, e1]
  exact ⟨by trivial, by trivial⟩
def len8 : Bs := [0, 1, 2, 2, 3, 3, 3, 3, 4, 4, 4, 4, 4, 4, 4, 4, 5, 5, 5, 5, 5, 5, 5, 5, 5, 5, 5, 5, 5, 5, 5, 5, 6, 6, 6, 6, 6, 6, 6, 6, 6, 6, 6, 6, 6, 6, 6, 6, 6, 6, 6, 6, 6, 6, 6, 6, 6, 6, 6, 6, 6, 6, 6, 6, 7, 7, 7, 7, 7, 7, 7, 7, 7, 7, 7, 7, 7, 7, 7, 7, 7, 7, 7, 7, 7, 7, 7, 7, 7, 7, 7, 7, 7, 7, 7, 7, 7, 7, 7, 7, 7, 7, 7, 7, 7, 7, 7, 7, 7, 7, 7, 7, 7, 7, 7, 7, 7, 7, 7, 7, 7, 7, 7, 7, 7, 7, 7, 7, 8, 8, 8, 8, 8, 8, 8, 8, 8, 8, 8, 8, 8, 8, 8, 8, 8, 8, 8, 8, 8, 8, 8, 8, 8, 8, 8, 8, 8, 8, 8, 8, 8, 8, 8, 8, 8, 8, 8, 8, 8, 8, 8, 8, 8, 8, 8, 8, 8, 8, 8, 8, 8, 8, 8, 8, 8, 8, 8, 8, 8, 8, 8, 8, 8, 8, 8, 8, 8, 8, 8, 8, 8, 8, 8, 8, 8, 8, 8, 8, 8, 8, 8, 8, 8, 8, 8, 8, 8, 8, 8, 8, 8, 8, 8, 8, 8, 8, 8, 8, 8, 8, 8, 8, 8, 8, 8, 8, 8, 8, 8, 8, 8, 8, 8, 8, 8, 8, 8, 8, 8, 8, 8, 8, 8, 8, 8, 8]
theorem len8_lit : len8 = [0, 1, 2, 2, 3, 3, 3, 3, 4, 4, 4, 4, 4, 4, 4, 4, 5, 5, 5, 5, 5, 5, 5, 5, 5, 5, 5, 5, 5, 5, 5, 5, 6, 6, 6, 6, 6, 6, 6, 6, 6, 6, 6, 6, 6, 6, 6, 6, 6, 6, 6, 6, 6, 6, 6, 6, 6, 6, 6, 6, 6, 6, 6, 6, 7, 7, 7, 7, 7, 7, 7, 7, 7, 7, 7, 7, 7, 7, 7, 7, 7, 7, 7, 7, 7, 7, 7, 7, 7, 7, 7, 7, 7, 7, 7, 7, 7, 7, 7, 7, 7, 7, 7, 7, 7, 7, 7, 7, 7, 7, 7, 7, 7, 7, 7, 7, 7, 7, 7, 7, 7, 7, 7, 7, 7, 7, 7, 7, 8, 8, 8, 8, 8, 8, 8, 8, 8, 8, 8, 8, 8, 8, 8, 8, 8, 8, 8, 8, 8, 8, 8, 8, 8, 8, 8, 8, 8, 8, 8, 8, 8, 8, 8, 8, 8, 8, 8, 8, 8, 8, 8, 8, 8, 8, 8, 8, 8, 8, 8, 8, 8, 8, 8, 8, 8, 8, 8, 8, 8, 8, 8, 8, 8, 8, 8, 8, 8, 8, 8, 8, 8, 8, 8, 8, 8, 8, 8, 8, 8, 8, 8, 8, 8, 8, 8, 8, 8, 8, 8, 8, 8, 8, 8, 8, 8, 8, 8, 8, 8, 8, 8, 8, 8, 8, 8, 8, 8, 8, 8, 8, 8, 8, 8, 8, 8, 8, 8, 8, 8, 8, 8, 8, 8, 8, 8, 8] := rfl
theorem len8_at {v : Nat} (h : v < 256) : ∃ l : UInt8, len8[v]? = some l ∧ v < 2 ^ l.toNat ∧ (0 < v → 2 ^ l.toNat ≤ 2 * v) ∧ l.toNat ≤ 8 := by
  have : ∀ v, v < 256 → (match len8[v]? with | some l => decide (v < 2 ^ l.toNat) && (decide (v = 0) || decide (2 ^ l.toNat ≤ 2 * v)) && decide (l.toNat ≤ 8) | none => false) = true := of_decide_eq_true (by kernel_rfl)
  have := this v h
  cases hl : len8[v]? with
  | none => rw [hl] at this; simp at this
  | some l =>
    rw [hl] at this
    simp only [Bool.and_eq_true, Bool.or_eq_true, decide_eq_true_eq] at this
    exact ⟨l, rfl, this.1.1, fun h0 => by rcases this.1.2 with h | h; omega; exact h, this.2⟩
set_option maxRecDepth 100000 in
theorem len64_spec (h94 : N.is 94 = false) {u : Nat} (h0 : 0 < u) (hu : u < 4294967296) {H : AHeap} :
    ACalls Tryd.prog N 94 [.int .u64 (u : Int)] H fun v H' => (∃ L : Nat, v = .int .i64 (L : Int) ∧ u < 2 ^ L ∧ 2 ^ L ≤ 2 * u ∧ L ≤ 32) ∧ H' = H := by
  refine acalls_ofN h94 za94 rfl ?_
  simp only [c94, ← len8_lit]
  have n32 : ¬ (4294967296 : Int) ≤ (u : Int) := by omega
  have e16 := shrN .u64 .u64 u (b := 16) (by decide)
  simp only [Int.cast_ofNat_Int, Nat.reducePow] at e16
  have key : ∀ (x : Nat) (s l : Nat), u / 2 ^ s = x → 0 < x → x < 2 ^ l → 2 ^ l ≤ 2 * x → s ≤ 24 → u < 2 ^ (s + l) ∧ 2 ^ (s + l) ≤ 2 * u := by
    intro x s l hx hx0 h1 h2 hs
    have hp : 0 < 2 ^ s := Nat.pos_of_ne_zero (by simp)
    rw [Nat.pow_add]
    generalize 2 ^ s = p at *
    generalize 2 ^ l = q at *
    subst hx
    have h3 := Nat.div_mul_le_self u p
    have h4 := Nat.lt_div_mul_add hp (a := u)
    constructor
    · have : (u / p + 1) * p ≤ q * p := Nat.mul_le_mul_right _ h1
      rw [Nat.add_mul, Nat.one_mul] at this
      rw [Nat.mul_comm p q]
      omega
    · calc p * q ≤ p * (2 * (u / p)) := Nat.mul_le_mul_left _ h2
        _ = 2 * (u / p * p) := by rw [Nat.mul_comm p, Nat.mul_assoc]
        _ ≤ 2 * u := by omega
  by_cases c1 : 65536 ≤ u
  · have c1' : (65536 : Int) ≤ (u : Int) := by omega
    have e8 := shrN .u64 .u64 (u / 65536) (b := 8) (by decide)
    simp only [Int.cast_ofNat_Int, Nat.reducePow] at e8
    have w1 : IntKind.i64.wrap (0 + 16) = 16 := by decide
    by_cases c2 : 256 ≤ u / 65536
    · have c2' : (256 : Int) ≤ ((u / 65536 : Nat) : Int) := by omega
      have w2 : IntKind.i64.wrap (16 + 8) = 24 := by decide
      obtain ⟨l, l1, l2, l3, l4⟩ := len8_at (v := u / 65536 / 256) (by omega)
      have w3 : IntKind.u8.wrap ((u / 65536 / 256 : Nat) : Int) = ((u / 65536 / 256 : Nat) : Int) := wrapU8 (by omega) (by omega)
      have w4 : IntKind.i64.wrap (l.toNat : Int) = (l.toNat : Int) := wrap64 (by omega) (by omega)
      have w5 : IntKind.i64.wrap (24 + (l.toNat : Int)) = ((24 + l.toNat : Nat) : Int) := by rw [wrap64 (by omega) (by omega)]; omega
      simp only [pf_min, undef_bool, str_len, str_eql, str_neq, conv_in, un_not, eq_self, decide_true, decide_false, Bool.not_true, Bool.not_false, argE_0, argE_1, argE_2, argE_3, argE_4, aw_skip, aw_reg, aw_seq, aw_cond, aw_block, aw_exit, aw_ret, inSeq_normal, inSeq_exit, inSeq_ret, inBlk_exit, inBlk_normal, inBlk_ret, OptK_some, OptH_some, OptS_some, kont_app, ar_nil, ar_guard, ar_mv, ar_pick, ar_new, ar_box, ar_build, ar_buildSl, ar_load, ar_store, ar_nilChk, ar_bin, ar_un, ar_conv, ar_convSB, ar_convBS, ar_mkFunc, ar_mkIface, ar_mkSlice, ar_sl, ar_slStr, ar_fieldA, ar_field, ar_idxA, ar_idxArr, ar_idx, ar_idxS, ar_extract, ar_append, ar_len, ar_call, ar_callv, callvP_func, List.nil_append, List.cons_append, List.append_nil, ar_pf, ar_hf, ar_slA, upO_some, upO_none, sX_t, sX_c, sX_f, sXs, sXO, sXP, fin_t, fin_t2, fin_t3, up_same, up_ne, ne_eq, not_false_eq_true, AVal.bool.injEq, decide_eq_true_eq, decide_eq_false_iff_not, Int.ofNat_eq_natCast, Int.reduceNegSucc, Int.cast_ofNat_Int, reduceCtorEq, bin_lss, bin_leq, bin_gtr, bin_geq, bin_eql, bin_neq, bin_add, bin_sub, bin_mul, Bool.not_eq_true', Bool.not_eq_false', Bool.true_eq_false, Bool.false_eq_true, Nat.reduceEqDiff, ↓reduceIte, if_true, if_false, Nat.reduceAdd, Int.reduceEq, Int.reduceLT, Int.reduceLE, n32, e16, c1', w1, c2', e8, w2, w3, str_idx l1, w4, w5]
      obtain ⟨k1, k2⟩ := key (u / 65536 / 256) 24 l.toNat (by omega) (by omega) l2 (l3 (by omega)) (by omega)
      exact ⟨⟨24 + l.toNat, by trivial, k1, k2, by omega⟩, by trivial⟩
    · have c2' : ¬ (256 : Int) ≤ ((u / 65536 : Nat) : Int) := by omega
      obtain ⟨l, l1, l2, l3, l4⟩ := len8_at (v := u / 65536) (by omega)
      have w3 : IntKind.u8.wrap ((u / 65536 : Nat) : Int) = ((u / 65536 : Nat) : Int) := wrapU8 (by omega) (by omega)
      have w4 : IntKind.i64.wrap (l.toNat : Int) = (l.toNat : Int) := wrap64 (by omega) (by omega)
      have w5 : IntKind.i64.wrap (16 + (l.toNat : Int)) = ((16 + l.toNat : Nat) : Int) := by rw [wrap64 (by omega) (by omega)]; omega
      simp only [pf_min, undef_bool, str_len, str_eql, str_neq, conv_in, un_not, eq_self, decide_true, decide_false, Bool.not_true, Bool.not_false, argE_0, argE_1, argE_2, argE_3, argE_4, aw_skip, aw_reg, aw_seq, aw_cond, aw_block, aw_exit, aw_ret, inSeq_normal, inSeq_exit, inSeq_ret, inBlk_exit, inBlk_normal, inBlk_ret, OptK_some, OptH_some, OptS_some, kont_app, ar_nil, ar_guard, ar_mv, ar_pick, ar_new, ar_box, ar_build, ar_buildSl, ar_load, ar_store, ar_nilChk, ar_bin, ar_un, ar_conv, ar_convSB, ar_convBS, ar_mkFunc, ar_mkIface, ar_mkSlice, ar_sl, ar_slStr, ar_fieldA, ar_field, ar_idxA, ar_idxArr, ar_idx, ar_idxS, ar_extract, ar_append, ar_len, ar_call, ar_callv, callvP_func, List.nil_append, List.cons_append, List.append_nil, ar_pf, ar_hf, ar_slA, upO_some, upO_none, sX_t, sX_c, sX_f, sXs, sXO, sXP, fin_t, fin_t2, fin_t3, up_same, up_ne, ne_eq, not_false_eq_true, AVal.bool.injEq, decide_eq_true_eq, decide_eq_false_iff_not, Int.ofNat_eq_natCast, Int.reduceNegSucc, Int.cast_ofNat_Int, reduceCtorEq, bin_lss, bin_leq, bin_gtr, bin_geq, bin_eql, bin_neq, bin_add, bin_sub, bin_mul, Bool.not_eq_true', Bool.not_eq_false', Bool.true_eq_false, Bool.false_eq_true, Nat.reduceEqDiff, ↓reduceIte, if_true, if_false, Nat.reduceAdd, Int.reduceEq, Int.reduceLT, Int.reduceLE, n32, e16, c1', w1, c2', w3, str_idx l1, w4, w5]
      obtain ⟨k1, k2⟩ := key (u / 65536) 16 l.toNat (by omega) (by omega) l2 (l3 (by omega)) (by omega)
      exact ⟨⟨16 + l.toNat, by trivial, k1, k2, by omega⟩, by trivial⟩
  · have c1' : ¬ (65536 : Int) ≤ (u : Int) := by omega
    have e8 := shrN .u64 .u64 u (b := 8) (by decide)
    simp only [Int.cast_ofNat_Int, Nat.reducePow] at e8
    by_cases c2 : 256 ≤ u
    · have c2' : (256 : Int) ≤ (u : Int) := by omega
      have w2 : IntKind.i64.wrap (0 + 8) = 8 := by decide
      obtain ⟨l, l1, l2, l3, l4⟩ := len8_at (v := u / 256) (by omega)
      have w3 : IntKind.u8.wrap ((u / 256 : Nat) : Int) = ((u / 256 : Nat) : Int) := wrapU8 (by omega) (by omega)
      have w4 : IntKind.i64.wrap (l.toNat : Int) = (l.toNat : Int) := wrap64 (by omega) (by omega)
      have w5 : IntKind.i64.wrap (8 + (l.toNat : Int)) = ((8 + l.toNat : Nat) : Int) := by rw [wrap64 (by omega) (by omega)]; omega
      simp only [pf_min, undef_bool, str_len, str_eql, str_neq, conv_in, un_not, eq_self, decide_true, decide_false, Bool.not_true, Bool.not_false, argE_0, argE_1, argE_2, argE_3, argE_4, aw_skip, aw_reg, aw_seq, aw_cond, aw_block, aw_exit, aw_ret, inSeq_normal, inSeq_exit, inSeq_ret, inBlk_exit, inBlk_normal, inBlk_ret, OptK_some, OptH_some, OptS_some, kont_app, ar_nil, ar_guard, ar_mv, ar_pick, ar_new, ar_box, ar_build, ar_buildSl, ar_load, ar_store, ar_nilChk, ar_bin, ar_un, ar_conv, ar_convSB, ar_convBS, ar_mkFunc, ar_mkIface, ar_mkSlice, ar_sl, ar_slStr, ar_fieldA, ar_field, ar_idxA, ar_idxArr, ar_idx, ar_idxS, ar_extract, ar_append, ar_len, ar_call, ar_callv, callvP_func, List.nil_append, List.cons_append, List.append_nil, ar_pf, ar_hf, ar_slA, upO_some, upO_none, sX_t, sX_c, sX_f, sXs, sXO, sXP, fin_t, fin_t2, fin_t3, up_same, up_ne, ne_eq, not_false_eq_true, AVal.bool.injEq, decide_eq_true_eq, decide_eq_false_iff_not, Int.ofNat_eq_natCast, Int.reduceNegSucc, Int.cast_ofNat_Int, reduceCtorEq, bin_lss, bin_leq, bin_gtr, bin_geq, bin_eql, bin_neq, bin_add, bin_sub, bin_mul, Bool.not_eq_true', Bool.not_eq_false', Bool.true_eq_false, Bool.false_eq_true, Nat.reduceEqDiff, ↓reduceIte, if_true, if_false, Nat.reduceAdd, Int.reduceEq, Int.reduceLT, Int.reduceLE, n32, c1', c2', e8, w2, w3, str_idx l1, w4, w5]
      obtain ⟨k1, k2⟩ := key (u / 256) 8 l.toNat (by omega) (by omega) l2 (l3 (by omega)) (by omega)
      exact ⟨⟨8 + l.toNat, by trivial, k1, k2, by omega⟩, by trivial⟩
    · have c2' : ¬ (256 : Int) ≤ (u : Int) := by omega
      obtain ⟨l, l1, l2, l3, l4⟩ := len8_at (v := u) (by omega)
      have w3 : IntKind.u8.wrap (u : Int) = (u : Int) := wrapU8 (by omega) (by omega)
      have w4 : IntKind.i64.wrap (l.toNat : Int) = (l.toNat : Int) := wrap64 (by omega) (by omega)
      have w5 : IntKind.i64.wrap (0 + (l.toNat : Int)) = (l.toNat : Int) := by rw [wrap64 (by omega) (by omega)]; omega
      simp only [pf_min, undef_bool, str_len, str_eql, str_neq, conv_in, un_not, eq_self, decide_true, decide_false, Bool.not_true, Bool.not_false, argE_0, argE_1, argE_2, argE_3, argE_4, aw_skip, aw_reg, aw_seq, aw_cond, aw_block, aw_exit, aw_ret, inSeq_normal, inSeq_exit, inSeq_ret, inBlk_exit, inBlk_normal, inBlk_ret, OptK_some, OptH_some, OptS_some, kont_app, ar_nil, ar_guard, ar_mv, ar_pick, ar_new, ar_box, ar_build, ar_buildSl, ar_load, ar_store, ar_nilChk, ar_bin, ar_un, ar_conv, ar_convSB, ar_convBS, ar_mkFunc, ar_mkIface, ar_mkSlice, ar_sl, ar_slStr, ar_fieldA, ar_field, ar_idxA, ar_idxArr, ar_idx, ar_idxS, ar_extract, ar_append, ar_len, ar_call, ar_callv, callvP_func, List.nil_append, List.cons_append, List.append_nil, ar_pf, ar_hf, ar_slA, upO_some, upO_none, sX_t, sX_c, sX_f, sXs, sXO, sXP, fin_t, fin_t2, fin_t3, up_same, up_ne, ne_eq, not_false_eq_true, AVal.bool.injEq, decide_eq_true_eq, decide_eq_false_iff_not, Int.ofNat_eq_natCast, Int.reduceNegSucc, Int.cast_ofNat_Int, reduceCtorEq, bin_lss, bin_leq, bin_gtr, bin_geq, bin_eql, bin_neq, bin_add, bin_sub, bin_mul, Bool.not_eq_true', Bool.not_eq_false', Bool.true_eq_false, Bool.false_eq_true, Nat.reduceEqDiff, ↓reduceIte, if_true, if_false, Nat.reduceAdd, Int.reduceEq, Int.reduceLT, Int.reduceLE, n32, c1', c2', w3, str_idx l1, w4, w5]
      exact ⟨⟨l.toNat, by trivial, l2, l3 h0, by omega⟩, by trivial⟩
/-- the powers of ten -/
def powL : List AVal := (List.range 20).map fun i => .int .u64 ((10 ^ i : Nat) : Int)
theorem powL_get {i : Nat} (h : i < 20) : powL[i]? = some (.int .u64 ((10 ^ i : Nat) : Int)) := by
  simp [powL, h]
theorem digits_spec (h78 : N.is 78 = false) (h93 : N.is 93 = false) (h94 : N.is 94 = false) (h95 : N.is 95 = false) {u : Nat} (h0 : 0 < u) (hu : u < 4294967296) {H : AHeap} (G : Glo H 1 powL) :
    ACalls Tryd.prog N 78 [.int .u64 (u : Int)] H fun v H' => (∃ k : Nat, v = .int .i64 ((k + 1 : Nat) : Int) ∧ 10 ^ k ≤ u ∧ u < 10 ^ (k + 1) ∧ k < 10) ∧ H' = H := by
  refine acalls_ofN h78 za78 rfl ?_
  simp only [c78, pf_min, undef_bool, str_len, str_eql, str_neq, conv_in, un_not, eq_self, decide_true, decide_false, Bool.not_true, Bool.not_false, argE_0, argE_1, argE_2, argE_3, argE_4, aw_skip, aw_reg, aw_seq, aw_cond, aw_block, aw_exit, aw_ret, inSeq_normal, inSeq_exit, inSeq_ret, inBlk_exit, inBlk_normal, inBlk_ret, OptK_some, OptH_some, OptS_some, kont_app, ar_nil, ar_guard, ar_mv, ar_pick, ar_new, ar_box, ar_build, ar_buildSl, ar_load, ar_store, ar_nilChk, ar_bin, ar_un, ar_conv, ar_convSB, ar_convBS, ar_mkFunc, ar_mkIface, ar_mkSlice, ar_sl, ar_slStr, ar_fieldA, ar_field, ar_idxA, ar_idxArr, ar_idx, ar_idxS, ar_extract, ar_append, ar_len, ar_call, ar_callv, callvP_func, List.nil_append, List.cons_append, List.append_nil, ar_pf, ar_hf, ar_slA, upO_some, upO_none, sX_t, sX_c, sX_f, sXs, sXO, sXP, fin_t, fin_t2, fin_t3, up_same, up_ne, ne_eq, not_false_eq_true, AVal.bool.injEq, decide_eq_true_eq, decide_eq_false_iff_not, Int.ofNat_eq_natCast, Int.reduceNegSucc, Int.cast_ofNat_Int, reduceCtorEq, bin_lss, bin_leq, bin_gtr, bin_geq, bin_eql, bin_neq, bin_add, bin_sub, bin_mul, Bool.not_eq_true', Bool.not_eq_false', Bool.true_eq_false, Bool.false_eq_true, Nat.reduceEqDiff, ↓reduceIte, if_true, if_false, Nat.reduceAdd, Int.reduceEq, Int.reduceLT, Int.reduceLE]
  refine (len64_spec h94 h0 hu).mono ?_
  rintro v _ ⟨⟨L, rfl, l1, l2, l3⟩, rfl⟩
  simp only [pf_min, undef_bool, str_len, str_eql, str_neq, conv_in, un_not, eq_self, decide_true, decide_false, Bool.not_true, Bool.not_false, argE_0, argE_1, argE_2, argE_3, argE_4, aw_skip, aw_reg, aw_seq, aw_cond, aw_block, aw_exit, aw_ret, inSeq_normal, inSeq_exit, inSeq_ret, inBlk_exit, inBlk_normal, inBlk_ret, OptK_some, OptH_some, OptS_some, kont_app, ar_nil, ar_guard, ar_mv, ar_pick, ar_new, ar_box, ar_build, ar_buildSl, ar_load, ar_store, ar_nilChk, ar_bin, ar_un, ar_conv, ar_convSB, ar_convBS, ar_mkFunc, ar_mkIface, ar_mkSlice, ar_sl, ar_slStr, ar_fieldA, ar_field, ar_idxA, ar_idxArr, ar_idx, ar_idxS, ar_extract, ar_append, ar_len, ar_call, ar_callv, callvP_func, List.nil_append, List.cons_append, List.append_nil, ar_pf, ar_hf, ar_slA, upO_some, upO_none, sX_t, sX_c, sX_f, sXs, sXO, sXP, fin_t, fin_t2, fin_t3, up_same, up_ne, ne_eq, not_false_eq_true, AVal.bool.injEq, decide_eq_true_eq, decide_eq_false_iff_not, Int.ofNat_eq_natCast, Int.reduceNegSucc, Int.cast_ofNat_Int, reduceCtorEq, bin_lss, bin_leq, bin_gtr, bin_geq, bin_eql, bin_neq, bin_add, bin_sub, bin_mul, Bool.not_eq_true', Bool.not_eq_false', Bool.true_eq_false, Bool.false_eq_true, Nat.reduceEqDiff, ↓reduceIte, if_true, if_false, Nat.reduceAdd, Int.reduceEq, Int.reduceLT, Int.reduceLE]
  refine (log10_spec h93 (show L ≤ 64 by omega)).mono ?_
  rintro v _ ⟨rfl, rfl⟩
  have hL : 1 ≤ L := by
    rcases Nat.eq_zero_or_pos L with h | h
    · subst h; simp at l1; omega
    · exact h
  have all : ∀ L, L ≤ 32 → 1 ≤ L → 2 ^ L ≤ 10 ^ (L * 78913 / 262144 + 1) ∧ (10 ^ (L * 78913 / 262144 - 1) * 2 ≤ 2 ^ L) ∧ L * 78913 / 262144 < 10 := of_decide_eq_true (by kernel_rfl)
  obtain ⟨a1, a2, a3⟩ := all L l3 hL
  generalize L * 78913 / 262144 = t at *
  have ht : t < 20 := by omega
  simp only [pf_min, undef_bool, str_len, str_eql, str_neq, conv_in, un_not, eq_self, decide_true, decide_false, Bool.not_true, Bool.not_false, argE_0, argE_1, argE_2, argE_3, argE_4, aw_skip, aw_reg, aw_seq, aw_cond, aw_block, aw_exit, aw_ret, inSeq_normal, inSeq_exit, inSeq_ret, inBlk_exit, inBlk_normal, inBlk_ret, OptK_some, OptH_some, OptS_some, kont_app, ar_nil, ar_guard, ar_mv, ar_pick, ar_new, ar_box, ar_build, ar_buildSl, ar_load, ar_store, ar_nilChk, ar_bin, ar_un, ar_conv, ar_convSB, ar_convBS, ar_mkFunc, ar_mkIface, ar_mkSlice, ar_sl, ar_slStr, ar_fieldA, ar_field, ar_idxA, ar_idxArr, ar_idx, ar_idxS, ar_extract, ar_append, ar_len, ar_call, ar_callv, callvP_func, List.nil_append, List.cons_append, List.append_nil, ar_pf, ar_hf, ar_slA, upO_some, upO_none, sX_t, sX_c, sX_f, sXs, sXO, sXP, fin_t, fin_t2, fin_t3, up_same, up_ne, ne_eq, not_false_eq_true, AVal.bool.injEq, decide_eq_true_eq, decide_eq_false_iff_not, Int.ofNat_eq_natCast, Int.reduceNegSucc, Int.cast_ofNat_Int, reduceCtorEq, bin_lss, bin_leq, bin_gtr, bin_geq, bin_eql, bin_neq, bin_add, bin_sub, bin_mul, Bool.not_eq_true', Bool.not_eq_false', Bool.true_eq_false, Bool.false_eq_true, Nat.reduceEqDiff, ↓reduceIte, if_true, if_false, Nat.reduceAdd, Int.reduceEq, Int.reduceLT, Int.reduceLE, gl_idx G (n := 20) (by decide) ht, gl_load G (n := 20) (by decide) (powL_get ht)]
  refine (bool2_spec h95 _).mono ?_
  rintro v _ ⟨rfl, rfl⟩
  by_cases hc : 10 ^ t ≤ u
  · have hc' : ((10 ^ t : Nat) : Int) ≤ (u : Int) := by omega
    have w : IntKind.i64.wrap ((t : Int) + 1) = ((t + 1 : Nat) : Int) := by rw [wrap64 (by omega) (by omega)]; omega
    simp only [pf_min, undef_bool, str_len, str_eql, str_neq, conv_in, un_not, eq_self, decide_true, decide_false, Bool.not_true, Bool.not_false, argE_0, argE_1, argE_2, argE_3, argE_4, aw_skip, aw_reg, aw_seq, aw_cond, aw_block, aw_exit, aw_ret, inSeq_normal, inSeq_exit, inSeq_ret, inBlk_exit, inBlk_normal, inBlk_ret, OptK_some, OptH_some, OptS_some, kont_app, ar_nil, ar_guard, ar_mv, ar_pick, ar_new, ar_box, ar_build, ar_buildSl, ar_load, ar_store, ar_nilChk, ar_bin, ar_un, ar_conv, ar_convSB, ar_convBS, ar_mkFunc, ar_mkIface, ar_mkSlice, ar_sl, ar_slStr, ar_fieldA, ar_field, ar_idxA, ar_idxArr, ar_idx, ar_idxS, ar_extract, ar_append, ar_len, ar_call, ar_callv, callvP_func, List.nil_append, List.cons_append, List.append_nil, ar_pf, ar_hf, ar_slA, upO_some, upO_none, sX_t, sX_c, sX_f, sXs, sXO, sXP, fin_t, fin_t2, fin_t3, up_same, up_ne, ne_eq, not_false_eq_true, AVal.bool.injEq, decide_eq_true_eq, decide_eq_false_iff_not, Int.ofNat_eq_natCast, Int.reduceNegSucc, Int.cast_ofNat_Int, reduceCtorEq, bin_lss, bin_leq, bin_gtr, bin_geq, bin_eql, bin_neq, bin_add, bin_sub, bin_mul, Bool.not_eq_true', Bool.not_eq_false', Bool.true_eq_false, Bool.false_eq_true, Nat.reduceEqDiff, ↓reduceIte, if_true, if_false, Nat.reduceAdd, Int.reduceEq, Int.reduceLT, Int.reduceLE, hc', w]
    exact ⟨⟨t, by trivial, hc, by omega, a3⟩, by trivial⟩
  · have hc' : ¬ ((10 ^ t : Nat) : Int) ≤ (u : Int) := by omega
    have w : IntKind.i64.wrap ((t : Int) + 0) = (t : Int) := by rw [wrap64 (by omega) (by omega)]; omega
    simp only [pf_min, undef_bool, str_len, str_eql, str_neq, conv_in, un_not, eq_self, decide_true, decide_false, Bool.not_true, Bool.not_false, argE_0, argE_1, argE_2, argE_3, argE_4, aw_skip, aw_reg, aw_seq, aw_cond, aw_block, aw_exit, aw_ret, inSeq_normal, inSeq_exit, inSeq_ret, inBlk_exit, inBlk_normal, inBlk_ret, OptK_some, OptH_some, OptS_some, kont_app, ar_nil, ar_guard, ar_mv, ar_pick, ar_new, ar_box, ar_build, ar_buildSl, ar_load, ar_store, ar_nilChk, ar_bin, ar_un, ar_conv, ar_convSB, ar_convBS, ar_mkFunc, ar_mkIface, ar_mkSlice, ar_sl, ar_slStr, ar_fieldA, ar_field, ar_idxA, ar_idxArr, ar_idx, ar_idxS, ar_extract, ar_append, ar_len, ar_call, ar_callv, callvP_func, List.nil_append, List.cons_append, List.append_nil, ar_pf, ar_hf, ar_slA, upO_some, upO_none, sX_t, sX_c, sX_f, sXs, sXO, sXP, fin_t, fin_t2, fin_t3, up_same, up_ne, ne_eq, not_false_eq_true, AVal.bool.injEq, decide_eq_true_eq, decide_eq_false_iff_not, Int.ofNat_eq_natCast, Int.reduceNegSucc, Int.cast_ofNat_Int, reduceCtorEq, bin_lss, bin_leq, bin_gtr, bin_geq, bin_eql, bin_neq, bin_add, bin_sub, bin_mul, Bool.not_eq_true', Bool.not_eq_false', Bool.true_eq_false, Bool.false_eq_true, Nat.reduceEqDiff, ↓reduceIte, if_true, if_false, Nat.reduceAdd, Int.reduceEq, Int.reduceLT, Int.reduceLE, hc', w]
    have ht0 : t ≠ 0 := by rintro rfl; simp at hc; omega
    obtain ⟨s, rfl⟩ := Nat.exists_eq_succ_of_ne_zero ht0
    exact ⟨⟨s, rfl, by simp at a2; omega, by simpa using hc, by omega⟩, by trivial⟩
end Go.Proofs.Wo
/- Words: strconv's AppendUint, and how a number is said: the contracts. -/
namespace Go.Proofs.Wo
open Go.Abs Go.Abs.S
set_option linter.unusedSimpArgs false
variable {N : ANat}
/-- so many digits, from the right -/
def put : Nat → List Nat → Nat → List Nat
  | 0, l, _ => l
  | i + 1, l, u => put i (l.set i (48 + u % 10)) (u / 10)
def set2 (l : List Nat) (i d : Nat) : List Nat := (l.set (i + 1) (48 + d % 10)).set i (48 + d / 10)
theorem set2_len (l : List Nat) (i d : Nat) : (set2 l i d).length = l.length := by simp [set2]
theorem put_two (i : Nat) (l : List Nat) (u : Nat) : put (i + 2) l u = put i (set2 l i (u % 100)) (u / 100) := by
  simp only [put, set2]
  rw [Nat.div_div_eq_div_mul]
  congr 3
  · omega
  · omega
theorem put_spec : ∀ (k : Nat) (l : List Nat) (u : Nat), k ≤ l.length → put k l u = (pd k u).map (48 + ·) ++ l.drop k
  | 0, l, u, _ => by simp [put, pd]
  | k + 1, l, u, h => by
    rw [put, put_spec k _ _ (by simp; omega), pd, List.map_append, List.append_assoc]
    congr 1
    have hlt : k < (l.set k (48 + u % 10)).length := by simp; omega
    rw [List.drop_eq_getElem_cons hlt]
    simp [List.drop_set]
theorem put_len : ∀ (k : Nat) (l : List Nat) (u : Nat), (put k l u).length = l.length
  | 0, l, u => rfl
  | k + 1, l, u => by rw [put, put_len k]; simp
theorem pair_row {H : AHeap} {b : Nat} {l : List Nat} (hr : Row H b (u8s l)) (hl : l.length = 24) {i d : Nat} (hi : i + 1 < 24) :
    ∃ H1 H2, oStore 1 H (cellR b 24 (i + 1)) (.int .u8 ((48 + d % 10 : Nat) : Int)) = some H1 ∧ oStore 1 H1 (cellR b 24 i) (.int .u8 ((48 + d / 10 : Nat) : Int)) = some H2 ∧ Row H2 b (u8s (set2 l i d)) ∧ H2.next = H.next ∧ ∀ c, c ≠ b → H2.get c = H.get c := by
  obtain ⟨H1, m1, r1, n1, k1⟩ := row_store hr (n := 24) (by rw [u8s_len, hl]) (i := i + 1) (by omega) (x := .int .u8 ((48 + d % 10 : Nat) : Int)) rfl
  rw [← u8s_set] at r1
  obtain ⟨H2, m2, r2, n2, k2⟩ := row_store r1 (n := 24) (by rw [u8s_len]; simpa using hl) (i := i) (by omega) (x := .int .u8 ((48 + d / 10 : Nat) : Int)) rfl
  rw [← u8s_set] at r2
  exact ⟨H1, H2, m1, m2, r2, by omega, fun c hc => (k2 c hc).trans (k1 c hc)⟩
theorem wsub {i : Nat} (j : Nat) (h : j ≤ i) (hi : i ≤ 1000) : IntKind.i64.wrap ((i : Int) - (j : Int)) = ((i - j : Nat) : Int) := by
  rw [wrap64 (by omega) (by omega)]; omega
def seq2 : ACode → ACode
  | .seq _ b => b
  | c => c
/-- what lies ahead of a tail -/
def pre79 (t : ACode) : ACode := match c79.body with
  | .seq a (.seq b (.seq c (.seq d _))) => .seq a (.seq b (.seq c (.seq d t)))
  | x => x
def code79 : ACode := seq2 (seq2 (seq2 (seq2 c79.body)))
set_option maxRecDepth 100000 in
theorem tail79 {b k : Nat} (hk : k ≤ 24) {R : List Nat} {Q : AHeap → Prop} (hQ : ∀ H', Row H' b (u8s R) → Q H' → Q H') {H0 : AHeap} {H : AHeap} {m : List Nat} (hm : m.length = 24) {i x : Nat} (hi : i < 4) (hik : i ≤ k) (hx : x < 10 ^ i) (hp : put i m x = R)
    {T : Env} (g0 : T 0 = bufS b 24 k) (g4 : T 4 = .int .i64 (i : Int)) (g12 : T 12 = .int .u32 (x : Int)) (hr : Row H b (u8s m)) (hn : H.next = H0.next) (ho : ∀ c, c ≠ b → H.get c = H0.get c) :
    wp (ACalls Tryd.prog N) code79 (fin c79.res fun v H' => Row H' b (u8s R) ∧ H'.next = H0.next ∧ ∀ c, c ≠ b → H'.get c = H0.get c) T H := by
  simp only [code79, seq2, c79, ← smalls_lit, pf_min, undef_bool, str_len, str_eql, str_neq, conv_in, un_not, eq_self, decide_true, decide_false, Bool.not_true, Bool.not_false, argE_0, argE_1, argE_2, argE_3, argE_4, aw_skip, aw_reg, aw_seq, aw_cond, aw_block, aw_exit, aw_ret, inSeq_normal, inSeq_exit, inSeq_ret, inBlk_exit, inBlk_normal, inBlk_ret, OptK_some, OptH_some, OptS_some, kont_app, ar_nil, ar_guard, ar_mv, ar_pick, ar_new, ar_box, ar_build, ar_buildSl, ar_load, ar_store, ar_nilChk, ar_bin, ar_un, ar_conv, ar_convSB, ar_convBS, ar_mkFunc, ar_mkIface, ar_mkSlice, ar_sl, ar_slStr, ar_fieldA, ar_field, ar_idxA, ar_idxArr, ar_idx, ar_idxS, ar_extract, ar_append, ar_len, ar_call, ar_callv, callvP_func, List.nil_append, List.cons_append, List.append_nil, ar_pf, ar_hf, ar_slA, upO_some, upO_none, sX_t, sX_c, sX_f, sXs, sXO, sXP, fin_t, fin_t2, fin_t3, up_same, up_ne, ne_eq, not_false_eq_true, AVal.bool.injEq, decide_eq_true_eq, decide_eq_false_iff_not, Int.ofNat_eq_natCast, Int.reduceNegSucc, Int.cast_ofNat_Int, reduceCtorEq, bin_lss, bin_leq, bin_gtr, bin_geq, bin_eql, bin_neq, bin_add, bin_sub, bin_mul, Bool.not_eq_true', Bool.not_eq_false', Bool.true_eq_false, Bool.false_eq_true, Nat.reduceEqDiff, ↓reduceIte, if_true, if_false, Nat.reduceAdd, Int.reduceEq, Int.reduceLT, Int.reduceLE]
  have fin1 : ∀ {T : Env} {H : AHeap} {m : List Nat} {x : Nat}, x < 10 → m.length = 24 → put 1 m x = R → Row H b (u8s m) → H.next = H0.next → (∀ c, c ≠ b → H.get c = H0.get c) → 1 ≤ k →
      IntKind.u32.wrap (48 + (x : Int)) = ((48 + x : Nat) : Int) ∧ IntKind.u8.wrap ((48 + x : Nat) : Int) = ((48 + x : Nat) : Int) ∧ aIdxA 1 (bufS b 24 k) (.int .i64 0) = some (cellR b 24 0) ∧
      ∃ H', oStore 1 H (cellR b 24 0) (.int .u8 ((48 + x : Nat) : Int)) = some H' ∧ Row H' b (u8s R) ∧ H'.next = H0.next ∧ ∀ c, c ≠ b → H'.get c = H0.get c := by
    intro T H m x hx hm hp hr hn ho hk1
    refine ⟨by rw [wrapU32 (by omega) (by omega)]; omega, wrapU8 (by omega) (by omega), buf_idx .i64 (i := 0) hk1, ?_⟩
    obtain ⟨H1, m1, r1, n1, k1⟩ := row_store hr (n := 24) (by rw [u8s_len, hm]) (i := 0) (by omega) (x := .int .u8 ((48 + x : Nat) : Int)) rfl
    rw [← u8s_set] at r1
    refine ⟨H1, m1, ?_, by omega, fun c hc => (k1 c hc).trans (ho c hc)⟩
    have : x % 10 = x := by omega
    rw [← hp]
    simpa only [put, this] using r1
  by_cases c2 : 2 ≤ i
  · obtain ⟨j, rfl⟩ : ∃ j, i = j + 2 := ⟨i - 2, by omega⟩
    have c2' : (2 : Int) ≤ ((j + 2 : Nat) : Int) := by omega
    have e1 := remU32 (a := x) 100 (by omega)
    have hx4 : x < 10 ^ 4 := Nat.lt_of_lt_of_le hx (Nat.pow_le_pow_right (by omega) (by omega))
    have e2 := quoU32 (a := x) 100 (by omega) (by omega)
    simp only [Int.cast_ofNat_Int] at e1 e2
    have w1 : IntKind.u32.wrap (((x % 100 : Nat) : Int) * 2) = ((x % 100 * 2 : Nat) : Int) := by rw [wrapU32 (by omega) (by omega)]; omega
    have w2 : IntKind.u32.wrap (((x % 100 * 2 : Nat) : Int) + 1) = ((x % 100 * 2 + 1 : Nat) : Int) := by rw [wrapU32 (by omega) (by omega)]; omega
    have s1 : IntKind.i64.wrap (((j + 2 : Nat) : Int) - 1) = ((j + 1 : Nat) : Int) := by rw [wrap64 (by omega) (by omega)]; omega
    have s2 : IntKind.i64.wrap (((j + 2 : Nat) : Int) - 2) = ((j : Nat) : Int) := by rw [wrap64 (by omega) (by omega)]; omega
    obtain ⟨H1, H2, m1, m2, r2, n2, k2⟩ := pair_row hr hm (i := j) (d := x % 100) (by omega)
    have hd : x % 100 < 100 := by omega
    rw [put_two] at hp
    by_cases c0 : 0 < j
    · have hj : j = 1 := by omega
      have c0' : (0 : Int) < (j : Int) := by omega
      have hx2 : x / 100 < 10 := by
        rw [hj] at hx
        have : x < 10 ^ 3 := hx
        omega
      rw [hj] at hp r2
      obtain ⟨f1, f2, f3, H3, f4, f5⟩ := fin1 (T := T) hx2 (by rw [set2_len, hm]) hp r2 (by omega) (fun c hc => (k2 c hc).trans (ho c hc)) (by omega)
      simp only [pf_min, undef_bool, str_len, str_eql, str_neq, conv_in, un_not, eq_self, decide_true, decide_false, Bool.not_true, Bool.not_false, argE_0, argE_1, argE_2, argE_3, argE_4, aw_skip, aw_reg, aw_seq, aw_cond, aw_block, aw_exit, aw_ret, inSeq_normal, inSeq_exit, inSeq_ret, inBlk_exit, inBlk_normal, inBlk_ret, OptK_some, OptH_some, OptS_some, kont_app, ar_nil, ar_guard, ar_mv, ar_pick, ar_new, ar_box, ar_build, ar_buildSl, ar_load, ar_store, ar_nilChk, ar_bin, ar_un, ar_conv, ar_convSB, ar_convBS, ar_mkFunc, ar_mkIface, ar_mkSlice, ar_sl, ar_slStr, ar_fieldA, ar_field, ar_idxA, ar_idxArr, ar_idx, ar_idxS, ar_extract, ar_append, ar_len, ar_call, ar_callv, callvP_func, List.nil_append, List.cons_append, List.append_nil, ar_pf, ar_hf, ar_slA, upO_some, upO_none, sX_t, sX_c, sX_f, sXs, sXO, sXP, fin_t, fin_t2, fin_t3, up_same, up_ne, ne_eq, not_false_eq_true, AVal.bool.injEq, decide_eq_true_eq, decide_eq_false_iff_not, Int.ofNat_eq_natCast, Int.reduceNegSucc, Int.cast_ofNat_Int, reduceCtorEq, bin_lss, bin_leq, bin_gtr, bin_geq, bin_eql, bin_neq, bin_add, bin_sub, bin_mul, Bool.not_eq_true', Bool.not_eq_false', Bool.true_eq_false, Bool.false_eq_true, Nat.reduceEqDiff, ↓reduceIte, if_true, if_false, Nat.reduceAdd, Int.reduceEq, Int.reduceLT, Int.reduceLE, g0, g4, g12, c2', e1, e2, w1, w2, s1, s2, small_at hd, small_at1 hd, buf_idx .i64 (show j + 1 < k by omega), buf_idx .i64 (show j < k by omega), m1, m2, c0', f1, f2, f3, f4, fin_n0]
      exact f5
    · have hj : j = 0 := by omega
      have c0' : ¬ (0 : Int) < (j : Int) := by omega
      rw [hj] at hp r2
      simp only [pf_min, undef_bool, str_len, str_eql, str_neq, conv_in, un_not, eq_self, decide_true, decide_false, Bool.not_true, Bool.not_false, argE_0, argE_1, argE_2, argE_3, argE_4, aw_skip, aw_reg, aw_seq, aw_cond, aw_block, aw_exit, aw_ret, inSeq_normal, inSeq_exit, inSeq_ret, inBlk_exit, inBlk_normal, inBlk_ret, OptK_some, OptH_some, OptS_some, kont_app, ar_nil, ar_guard, ar_mv, ar_pick, ar_new, ar_box, ar_build, ar_buildSl, ar_load, ar_store, ar_nilChk, ar_bin, ar_un, ar_conv, ar_convSB, ar_convBS, ar_mkFunc, ar_mkIface, ar_mkSlice, ar_sl, ar_slStr, ar_fieldA, ar_field, ar_idxA, ar_idxArr, ar_idx, ar_idxS, ar_extract, ar_append, ar_len, ar_call, ar_callv, callvP_func, List.nil_append, List.cons_append, List.append_nil, ar_pf, ar_hf, ar_slA, upO_some, upO_none, sX_t, sX_c, sX_f, sXs, sXO, sXP, fin_t, fin_t2, fin_t3, up_same, up_ne, ne_eq, not_false_eq_true, AVal.bool.injEq, decide_eq_true_eq, decide_eq_false_iff_not, Int.ofNat_eq_natCast, Int.reduceNegSucc, Int.cast_ofNat_Int, reduceCtorEq, bin_lss, bin_leq, bin_gtr, bin_geq, bin_eql, bin_neq, bin_add, bin_sub, bin_mul, Bool.not_eq_true', Bool.not_eq_false', Bool.true_eq_false, Bool.false_eq_true, Nat.reduceEqDiff, ↓reduceIte, if_true, if_false, Nat.reduceAdd, Int.reduceEq, Int.reduceLT, Int.reduceLE, g0, g4, g12, c2', e1, e2, w1, w2, s1, s2, small_at hd, small_at1 hd, buf_idx .i64 (show j + 1 < k by omega), buf_idx .i64 (show j < k by omega), m1, m2, c0', fin_n0]
      refine ⟨by rw [← hp]; exact r2, by omega, fun c hc => (k2 c hc).trans (ho c hc)⟩
  · have c2' : ¬ (2 : Int) ≤ (i : Int) := by omega
    by_cases c0 : 0 < i
    · have hj : i = 1 := by omega
      have c0' : (0 : Int) < (i : Int) := by omega
      rw [hj] at hp hx
      obtain ⟨f1, f2, f3, H3, f4, f5⟩ := fin1 (T := T) (by simpa using hx) hm hp hr hn ho (by omega)
      simp only [pf_min, undef_bool, str_len, str_eql, str_neq, conv_in, un_not, eq_self, decide_true, decide_false, Bool.not_true, Bool.not_false, argE_0, argE_1, argE_2, argE_3, argE_4, aw_skip, aw_reg, aw_seq, aw_cond, aw_block, aw_exit, aw_ret, inSeq_normal, inSeq_exit, inSeq_ret, inBlk_exit, inBlk_normal, inBlk_ret, OptK_some, OptH_some, OptS_some, kont_app, ar_nil, ar_guard, ar_mv, ar_pick, ar_new, ar_box, ar_build, ar_buildSl, ar_load, ar_store, ar_nilChk, ar_bin, ar_un, ar_conv, ar_convSB, ar_convBS, ar_mkFunc, ar_mkIface, ar_mkSlice, ar_sl, ar_slStr, ar_fieldA, ar_field, ar_idxA, ar_idxArr, ar_idx, ar_idxS, ar_extract, ar_append, ar_len, ar_call, ar_callv, callvP_func, List.nil_append, List.cons_append, List.append_nil, ar_pf, ar_hf, ar_slA, upO_some, upO_none, sX_t, sX_c, sX_f, sXs, sXO, sXP, fin_t, fin_t2, fin_t3, up_same, up_ne, ne_eq, not_false_eq_true, AVal.bool.injEq, decide_eq_true_eq, decide_eq_false_iff_not, Int.ofNat_eq_natCast, Int.reduceNegSucc, Int.cast_ofNat_Int, reduceCtorEq, bin_lss, bin_leq, bin_gtr, bin_geq, bin_eql, bin_neq, bin_add, bin_sub, bin_mul, Bool.not_eq_true', Bool.not_eq_false', Bool.true_eq_false, Bool.false_eq_true, Nat.reduceEqDiff, ↓reduceIte, if_true, if_false, Nat.reduceAdd, Int.reduceEq, Int.reduceLT, Int.reduceLE, g0, g4, g12, c2', c0', f1, f2, f3, f4, fin_n0]
      exact f5
    · have hj : i = 0 := by omega
      have c0' : ¬ (0 : Int) < (i : Int) := by omega
      rw [hj] at hp
      simp only [pf_min, undef_bool, str_len, str_eql, str_neq, conv_in, un_not, eq_self, decide_true, decide_false, Bool.not_true, Bool.not_false, argE_0, argE_1, argE_2, argE_3, argE_4, aw_skip, aw_reg, aw_seq, aw_cond, aw_block, aw_exit, aw_ret, inSeq_normal, inSeq_exit, inSeq_ret, inBlk_exit, inBlk_normal, inBlk_ret, OptK_some, OptH_some, OptS_some, kont_app, ar_nil, ar_guard, ar_mv, ar_pick, ar_new, ar_box, ar_build, ar_buildSl, ar_load, ar_store, ar_nilChk, ar_bin, ar_un, ar_conv, ar_convSB, ar_convBS, ar_mkFunc, ar_mkIface, ar_mkSlice, ar_sl, ar_slStr, ar_fieldA, ar_field, ar_idxA, ar_idxArr, ar_idx, ar_idxS, ar_extract, ar_append, ar_len, ar_call, ar_callv, callvP_func, List.nil_append, List.cons_append, List.append_nil, ar_pf, ar_hf, ar_slA, upO_some, upO_none, sX_t, sX_c, sX_f, sXs, sXO, sXP, fin_t, fin_t2, fin_t3, up_same, up_ne, ne_eq, not_false_eq_true, AVal.bool.injEq, decide_eq_true_eq, decide_eq_false_iff_not, Int.ofNat_eq_natCast, Int.reduceNegSucc, Int.cast_ofNat_Int, reduceCtorEq, bin_lss, bin_leq, bin_gtr, bin_geq, bin_eql, bin_neq, bin_add, bin_sub, bin_mul, Bool.not_eq_true', Bool.not_eq_false', Bool.true_eq_false, Bool.false_eq_true, Nat.reduceEqDiff, ↓reduceIte, if_true, if_false, Nat.reduceAdd, Int.reduceEq, Int.reduceLT, Int.reduceLE, g0, g4, g12, c2', c0', fin_n0]
      exact ⟨by rw [← hp]; exact hr, hn, ho⟩
set_option maxRecDepth 100000 in
theorem fmt_spec (h79 : N.is 79 = false) {b k u : Nat} {l : List Nat} {H : AHeap} (hr : Row H b (u8s l)) (hl : l.length = 24) (hk : k ≤ 24) (hu : u < 10 ^ k) (hu64 : u < 18446744073709551616) :
    ACalls Tryd.prog N 79 [bufS b 24 k, .int .u64 (u : Int)] H fun v H' => Row H' b (u8s (put k l u)) ∧ H'.next = H.next ∧ ∀ c, c ≠ b → H'.get c = H.get c := by
  refine acalls_ofN h79 za79 rfl ?_
  have t := fun (T : Env) (H1 : AHeap) (m : List Nat) (i x : Nat) hm hi hik hx hp g0 g4 g12 hr hn ho => tail79 (N := N) (b := b) (k := k) hk (R := put k l u) (Q := fun _ => True) (fun _ _ h => h) (H0 := H) (H := H1) (m := m) hm (i := i) (x := x) hi hik hx hp (T := T) g0 g4 g12 hr hn ho
  show wp _ (pre79 code79) (fin c79.res _) _ _
  simp only [pre79, c79, ← smalls_lit, pf_min, undef_bool, str_len, str_eql, str_neq, conv_in, un_not, eq_self, decide_true, decide_false, Bool.not_true, Bool.not_false, argE_0, argE_1, argE_2, argE_3, argE_4, aw_skip, aw_reg, aw_seq, aw_cond, aw_block, aw_exit, aw_ret, inSeq_normal, inSeq_exit, inSeq_ret, inBlk_exit, inBlk_normal, inBlk_ret, OptK_some, OptH_some, OptS_some, kont_app, ar_nil, ar_guard, ar_mv, ar_pick, ar_new, ar_box, ar_build, ar_buildSl, ar_load, ar_store, ar_nilChk, ar_bin, ar_un, ar_conv, ar_convSB, ar_convBS, ar_mkFunc, ar_mkIface, ar_mkSlice, ar_sl, ar_slStr, ar_fieldA, ar_field, ar_idxA, ar_idxArr, ar_idx, ar_idxS, ar_extract, ar_append, ar_len, ar_call, ar_callv, callvP_func, List.nil_append, List.cons_append, List.append_nil, ar_pf, ar_hf, ar_slA, upO_some, upO_none, sX_t, sX_c, sX_f, sXs, sXO, sXP, fin_t, fin_t2, fin_t3, up_same, up_ne, ne_eq, not_false_eq_true, AVal.bool.injEq, decide_eq_true_eq, decide_eq_false_iff_not, Int.ofNat_eq_natCast, Int.reduceNegSucc, Int.cast_ofNat_Int, reduceCtorEq, bin_lss, bin_leq, bin_gtr, bin_geq, bin_eql, bin_neq, bin_add, bin_sub, bin_mul, Bool.not_eq_true', Bool.not_eq_false', Bool.true_eq_false, Bool.false_eq_true, Nat.reduceEqDiff, ↓reduceIte, if_true, if_false, Nat.reduceAdd, Int.reduceEq, Int.reduceLT, Int.reduceLE, buf_len]
  refine aw_loop (fun q (T : Env) H' => ∃ (i x : Nat) (m : List Nat), i ≤ k ∧ i = q ∧ m.length = 24 ∧ x < 10 ^ i ∧ x < 18446744073709551616 ∧ T 0 = bufS b 24 k ∧ T 1 = .int .u64 (x : Int) ∧ T 4 = .int .i64 (i : Int) ∧ put i m x = put k l u ∧ Row H' b (u8s m) ∧ H'.next = H.next ∧ ∀ c, c ≠ b → H'.get c = H.get c) k
    ⟨k, u, l, Nat.le_refl _, rfl, hl, hu, hu64, by simp only [pf_min, undef_bool, str_len, str_eql, str_neq, conv_in, un_not, eq_self, decide_true, decide_false, Bool.not_true, Bool.not_false, argE_0, argE_1, argE_2, argE_3, argE_4, aw_skip, aw_reg, aw_seq, aw_cond, aw_block, aw_exit, aw_ret, inSeq_normal, inSeq_exit, inSeq_ret, inBlk_exit, inBlk_normal, inBlk_ret, OptK_some, OptH_some, OptS_some, kont_app, ar_nil, ar_guard, ar_mv, ar_pick, ar_new, ar_box, ar_build, ar_buildSl, ar_load, ar_store, ar_nilChk, ar_bin, ar_un, ar_conv, ar_convSB, ar_convBS, ar_mkFunc, ar_mkIface, ar_mkSlice, ar_sl, ar_slStr, ar_fieldA, ar_field, ar_idxA, ar_idxArr, ar_idx, ar_idxS, ar_extract, ar_append, ar_len, ar_call, ar_callv, callvP_func, List.nil_append, List.cons_append, List.append_nil, ar_pf, ar_hf, ar_slA, upO_some, upO_none, sX_t, sX_c, sX_f, sXs, sXO, sXP, fin_t, fin_t2, fin_t3, up_same, up_ne, ne_eq, not_false_eq_true, AVal.bool.injEq, decide_eq_true_eq, decide_eq_false_iff_not, Int.ofNat_eq_natCast, Int.reduceNegSucc, Int.cast_ofNat_Int, reduceCtorEq, bin_lss, bin_leq, bin_gtr, bin_geq, bin_eql, bin_neq, bin_add, bin_sub, bin_mul, Bool.not_eq_true', Bool.not_eq_false', Bool.true_eq_false, Bool.false_eq_true, Nat.reduceEqDiff, ↓reduceIte, if_true, if_false, Nat.reduceAdd, Int.reduceEq, Int.reduceLT, Int.reduceLE], by simp only [pf_min, undef_bool, str_len, str_eql, str_neq, conv_in, un_not, eq_self, decide_true, decide_false, Bool.not_true, Bool.not_false, argE_0, argE_1, argE_2, argE_3, argE_4, aw_skip, aw_reg, aw_seq, aw_cond, aw_block, aw_exit, aw_ret, inSeq_normal, inSeq_exit, inSeq_ret, inBlk_exit, inBlk_normal, inBlk_ret, OptK_some, OptH_some, OptS_some, kont_app, ar_nil, ar_guard, ar_mv, ar_pick, ar_new, ar_box, ar_build, ar_buildSl, ar_load, ar_store, ar_nilChk, ar_bin, ar_un, ar_conv, ar_convSB, ar_convBS, ar_mkFunc, ar_mkIface, ar_mkSlice, ar_sl, ar_slStr, ar_fieldA, ar_field, ar_idxA, ar_idxArr, ar_idx, ar_idxS, ar_extract, ar_append, ar_len, ar_call, ar_callv, callvP_func, List.nil_append, List.cons_append, List.append_nil, ar_pf, ar_hf, ar_slA, upO_some, upO_none, sX_t, sX_c, sX_f, sXs, sXO, sXP, fin_t, fin_t2, fin_t3, up_same, up_ne, ne_eq, not_false_eq_true, AVal.bool.injEq, decide_eq_true_eq, decide_eq_false_iff_not, Int.ofNat_eq_natCast, Int.reduceNegSucc, Int.cast_ofNat_Int, reduceCtorEq, bin_lss, bin_leq, bin_gtr, bin_geq, bin_eql, bin_neq, bin_add, bin_sub, bin_mul, Bool.not_eq_true', Bool.not_eq_false', Bool.true_eq_false, Bool.false_eq_true, Nat.reduceEqDiff, ↓reduceIte, if_true, if_false, Nat.reduceAdd, Int.reduceEq, Int.reduceLT, Int.reduceLE], by simp only [pf_min, undef_bool, str_len, str_eql, str_neq, conv_in, un_not, eq_self, decide_true, decide_false, Bool.not_true, Bool.not_false, argE_0, argE_1, argE_2, argE_3, argE_4, aw_skip, aw_reg, aw_seq, aw_cond, aw_block, aw_exit, aw_ret, inSeq_normal, inSeq_exit, inSeq_ret, inBlk_exit, inBlk_normal, inBlk_ret, OptK_some, OptH_some, OptS_some, kont_app, ar_nil, ar_guard, ar_mv, ar_pick, ar_new, ar_box, ar_build, ar_buildSl, ar_load, ar_store, ar_nilChk, ar_bin, ar_un, ar_conv, ar_convSB, ar_convBS, ar_mkFunc, ar_mkIface, ar_mkSlice, ar_sl, ar_slStr, ar_fieldA, ar_field, ar_idxA, ar_idxArr, ar_idx, ar_idxS, ar_extract, ar_append, ar_len, ar_call, ar_callv, callvP_func, List.nil_append, List.cons_append, List.append_nil, ar_pf, ar_hf, ar_slA, upO_some, upO_none, sX_t, sX_c, sX_f, sXs, sXO, sXP, fin_t, fin_t2, fin_t3, up_same, up_ne, ne_eq, not_false_eq_true, AVal.bool.injEq, decide_eq_true_eq, decide_eq_false_iff_not, Int.ofNat_eq_natCast, Int.reduceNegSucc, Int.cast_ofNat_Int, reduceCtorEq, bin_lss, bin_leq, bin_gtr, bin_geq, bin_eql, bin_neq, bin_add, bin_sub, bin_mul, Bool.not_eq_true', Bool.not_eq_false', Bool.true_eq_false, Bool.false_eq_true, Nat.reduceEqDiff, ↓reduceIte, if_true, if_false, Nat.reduceAdd, Int.reduceEq, Int.reduceLT, Int.reduceLE], rfl, hr, rfl, fun c _ => rfl⟩ ?_
  rintro q T H1 ⟨i, x, m, hi, rfl, hm, hx, hx64, g0, g1, g4, hp, hr1, hn, ho⟩
  clear hr
  by_cases c8 : 8 ≤ i
  · obtain ⟨j, rfl⟩ : ∃ j, i = j + 8 := ⟨i - 8, by omega⟩
    have c8' : (8 : Int) ≤ ((j + 8 : Nat) : Int) := by omega
    have e1 := remU64 (a := x) 100000000 (by omega)
    have e2 := quoU64 (a := x) 100000000 (by omega) hx64
    have w0 : IntKind.u32.wrap ((x % 100000000 : Nat) : Int) = ((x % 100000000 : Nat) : Int) := wrapU32 (by omega) (by omega)
    have p1 : x % 100000000 % 10000 % 100 = x % 100 := by omega
    have p2 : x % 100000000 % 10000 / 100 = x / 100 % 100 := by omega
    have p3 : x % 100000000 / 10000 % 100 = x / 100 / 100 % 100 := by omega
    have p4 : x % 100000000 / 10000 / 100 = x / 100 / 100 / 100 % 100 := by omega
    have p5 : x / 100 / 100 / 100 / 100 = x / 100000000 := by omega
    rw [put_two (j + 6), put_two (j + 4), put_two (j + 2), put_two j, p5, ← p1, ← p2, ← p3, ← p4] at hp
    have hA : x % 100000000 < 100000000 := by omega
    have hx' : x / 100000000 < 10 ^ j := by
      rw [Nat.pow_add] at hx
      exact Nat.div_lt_of_lt_mul (by rw [Nat.mul_comm]; exact hx)
    have hxx : x / 100000000 < 18446744073709551616 := by omega
    generalize x / 100000000 = x' at *
    generalize x % 100000000 = A at *
    have e3 := quoU32 (a := A) 10000 (by omega) (by omega)
    have e4 := remU32 (a := A) 10000 (by omega)
    have hB : A / 10000 < 10000 := by omega
    have hC : A % 10000 < 10000 := by omega
    generalize A / 10000 = B at *
    generalize A % 10000 = C at *
    have e5 := quoU32 (a := C) 100 (by omega) (by omega)
    have e6 := remU32 (a := C) 100 (by omega)
    have e7 := quoU32 (a := B) 100 (by omega) (by omega)
    have e8 := remU32 (a := B) 100 (by omega)
    have d1 : C % 100 < 100 := by omega
    have d2 : C / 100 < 100 := by omega
    have d3 : B % 100 < 100 := by omega
    have d4 : B / 100 < 100 := by omega
    generalize C % 100 = y1 at *
    generalize C / 100 = y2 at *
    generalize B % 100 = y3 at *
    generalize B / 100 = y4 at *
    simp only [Int.cast_ofNat_Int] at e1 e2 e3 e4 e5 e6 e7 e8
    have ww : ∀ y : Nat, y < 100 → IntKind.u32.wrap ((y : Int) * 2) = ((y * 2 : Nat) : Int) := fun y hy => by rw [wrapU32 (by omega) (by omega)]; omega
    have wa : ∀ y : Nat, y < 100 → IntKind.u32.wrap (((y * 2 : Nat) : Int) + 1) = ((y * 2 + 1 : Nat) : Int) := fun y hy => by rw [wrapU32 (by omega) (by omega)]; omega
    have s1 : IntKind.i64.wrap (((j + 8 : Nat) : Int) - 1) = ((j + 6 + 1 : Nat) : Int) := by rw [wrap64 (by omega) (by omega)]; omega
    have s2 : IntKind.i64.wrap (((j + 8 : Nat) : Int) - 2) = ((j + 6 : Nat) : Int) := by rw [wrap64 (by omega) (by omega)]; omega
    have s3 : IntKind.i64.wrap (((j + 8 : Nat) : Int) - 3) = ((j + 4 + 1 : Nat) : Int) := by rw [wrap64 (by omega) (by omega)]; omega
    have s4 : IntKind.i64.wrap (((j + 8 : Nat) : Int) - 4) = ((j + 4 : Nat) : Int) := by rw [wrap64 (by omega) (by omega)]; omega
    have s5 : IntKind.i64.wrap (((j + 8 : Nat) : Int) - 5) = ((j + 2 + 1 : Nat) : Int) := by rw [wrap64 (by omega) (by omega)]; omega
    have s6 : IntKind.i64.wrap (((j + 8 : Nat) : Int) - 6) = ((j + 2 : Nat) : Int) := by rw [wrap64 (by omega) (by omega)]; omega
    have s7 : IntKind.i64.wrap (((j + 8 : Nat) : Int) - 7) = ((j + 1 : Nat) : Int) := by rw [wrap64 (by omega) (by omega)]; omega
    have s8 : IntKind.i64.wrap (((j + 8 : Nat) : Int) - 8) = ((j : Nat) : Int) := by rw [wrap64 (by omega) (by omega)]; omega
    obtain ⟨H2, H3, m2, m3, r3, n3, k3⟩ := pair_row hr1 hm (i := j + 6) (d := y1) (by omega)
    obtain ⟨H4, H5, m4, m5, r5, n5, k5⟩ := pair_row r3 (by rw [set2_len, hm]) (i := j + 4) (d := y2) (by omega)
    obtain ⟨H6, H7, m6, m7, r7, n7, k7⟩ := pair_row r5 (by rw [set2_len, set2_len, hm]) (i := j + 2) (d := y3) (by omega)
    obtain ⟨H8, H9, m8, m9, r9, n9, k9⟩ := pair_row r7 (by rw [set2_len, set2_len, set2_len, hm]) (i := j) (d := y4) (by omega)
    have ix : ∀ i, i < k → aIdxA 1 (bufS b 24 k) (.int .i64 (i : Int)) = some (cellR b 24 i) := fun i h => buf_idx .i64 h
    simp only [pf_min, undef_bool, str_len, str_eql, str_neq, conv_in, un_not, eq_self, decide_true, decide_false, Bool.not_true, Bool.not_false, argE_0, argE_1, argE_2, argE_3, argE_4, aw_skip, aw_reg, aw_seq, aw_cond, aw_block, aw_exit, aw_ret, inSeq_normal, inSeq_exit, inSeq_ret, inBlk_exit, inBlk_normal, inBlk_ret, OptK_some, OptH_some, OptS_some, kont_app, ar_nil, ar_guard, ar_mv, ar_pick, ar_new, ar_box, ar_build, ar_buildSl, ar_load, ar_store, ar_nilChk, ar_bin, ar_un, ar_conv, ar_convSB, ar_convBS, ar_mkFunc, ar_mkIface, ar_mkSlice, ar_sl, ar_slStr, ar_fieldA, ar_field, ar_idxA, ar_idxArr, ar_idx, ar_idxS, ar_extract, ar_append, ar_len, ar_call, ar_callv, callvP_func, List.nil_append, List.cons_append, List.append_nil, ar_pf, ar_hf, ar_slA, upO_some, upO_none, sX_t, sX_c, sX_f, sXs, sXO, sXP, fin_t, fin_t2, fin_t3, up_same, up_ne, ne_eq, not_false_eq_true, AVal.bool.injEq, decide_eq_true_eq, decide_eq_false_iff_not, Int.ofNat_eq_natCast, Int.reduceNegSucc, Int.cast_ofNat_Int, reduceCtorEq, bin_lss, bin_leq, bin_gtr, bin_geq, bin_eql, bin_neq, bin_add, bin_sub, bin_mul, Bool.not_eq_true', Bool.not_eq_false', Bool.true_eq_false, Bool.false_eq_true, Nat.reduceEqDiff, ↓reduceIte, if_true, if_false, Nat.reduceAdd, Int.reduceEq, Int.reduceLT, Int.reduceLE, g0, g1, g4, c8', e1, e2, e3, e4, e5, e6, e7, e8, w0, ww y1 d1, ww y2 d2, ww y3 d3, ww y4 d4, wa y1 d1, wa y2 d2, wa y3 d3, wa y4 d4, s1, s2, s3, s4, s5, s6, s7, s8, small_at d1, small_at1 d1, small_at d2, small_at1 d2, small_at d3, small_at1 d3, small_at d4, small_at1 d4,
      ix (j + 6 + 1) (by omega), ix (j + 6) (by omega), ix (j + 4 + 1) (by omega), ix (j + 4) (by omega), ix (j + 2 + 1) (by omega), ix (j + 2) (by omega), ix (j + 1) (by omega), ix j (by omega), m2, m3, m4, m5, m6, m7, m8, m9]
    refine ⟨_, Nat.lt_add_of_pos_right (by omega), j, x', _, by omega, rfl, ?_, hx', hxx, by trivial, by trivial, by trivial, hp, r9, by omega, fun c hc => (k9 c hc).trans ((k7 c hc).trans ((k5 c hc).trans ((k3 c hc).trans (ho c hc))))⟩
    simp only [set2_len, hm]
  · have c8' : ¬ (8 : Int) ≤ (i : Int) := by omega
    have hx7 : x < 10 ^ 7 := Nat.lt_of_lt_of_le hx (Nat.pow_le_pow_right (by omega) (by omega))
    have w0 : IntKind.u32.wrap (x : Int) = (x : Int) := wrapU32 (by omega) (by omega)
    by_cases c4 : 4 ≤ i
    · obtain ⟨j, rfl⟩ : ∃ j, i = j + 4 := ⟨i - 4, by omega⟩
      have c4' : (4 : Int) ≤ ((j + 4 : Nat) : Int) := by omega
      have e1 := remU32 (a := x) 10000 (by omega)
      have e2 := quoU32 (a := x) 10000 (by omega) (by omega)
      have p1 : x % 10000 % 100 = x % 100 := by omega
      have p2 : x % 10000 / 100 = x / 100 % 100 := by omega
      have p5 : x / 100 / 100 = x / 10000 := by omega
      rw [put_two (j + 2), put_two j, p5, ← p1, ← p2] at hp
      have hx' : x / 10000 < 10 ^ j := by
        rw [Nat.pow_add] at hx
        exact Nat.div_lt_of_lt_mul (by rw [Nat.mul_comm]; exact hx)
      have hC : x % 10000 < 10000 := by omega
      generalize x / 10000 = x' at *
      generalize x % 10000 = C at *
      have e5 := quoU32 (a := C) 100 (by omega) (by omega)
      have e6 := remU32 (a := C) 100 (by omega)
      have d1 : C % 100 < 100 := by omega
      have d2 : C / 100 < 100 := by omega
      generalize C % 100 = y1 at *
      generalize C / 100 = y2 at *
      simp only [Int.cast_ofNat_Int] at e1 e2 e5 e6
      have ww : ∀ y : Nat, y < 100 → IntKind.u32.wrap ((y : Int) * 2) = ((y * 2 : Nat) : Int) := fun y hy => by rw [wrapU32 (by omega) (by omega)]; omega
      have wa : ∀ y : Nat, y < 100 → IntKind.u32.wrap (((y * 2 : Nat) : Int) + 1) = ((y * 2 + 1 : Nat) : Int) := fun y hy => by rw [wrapU32 (by omega) (by omega)]; omega
      have s1 : IntKind.i64.wrap (((j + 4 : Nat) : Int) - 1) = ((j + 2 + 1 : Nat) : Int) := by rw [wrap64 (by omega) (by omega)]; omega
      have s2 : IntKind.i64.wrap (((j + 4 : Nat) : Int) - 2) = ((j + 2 : Nat) : Int) := by rw [wrap64 (by omega) (by omega)]; omega
      have s3 : IntKind.i64.wrap (((j + 4 : Nat) : Int) - 3) = ((j + 1 : Nat) : Int) := by rw [wrap64 (by omega) (by omega)]; omega
      have s4 : IntKind.i64.wrap (((j + 4 : Nat) : Int) - 4) = ((j : Nat) : Int) := by rw [wrap64 (by omega) (by omega)]; omega
      obtain ⟨H2, H3, m2, m3, r3, n3, k3⟩ := pair_row hr1 hm (i := j + 2) (d := y1) (by omega)
      obtain ⟨H4, H5, m4, m5, r5, n5, k5⟩ := pair_row r3 (by rw [set2_len, hm]) (i := j) (d := y2) (by omega)
      have ix : ∀ i, i < k → aIdxA 1 (bufS b 24 k) (.int .i64 (i : Int)) = some (cellR b 24 i) := fun i h => buf_idx .i64 h
      simp only [pf_min, undef_bool, str_len, str_eql, str_neq, conv_in, un_not, eq_self, decide_true, decide_false, Bool.not_true, Bool.not_false, argE_0, argE_1, argE_2, argE_3, argE_4, aw_skip, aw_reg, aw_seq, aw_cond, aw_block, aw_exit, aw_ret, inSeq_normal, inSeq_exit, inSeq_ret, inBlk_exit, inBlk_normal, inBlk_ret, OptK_some, OptH_some, OptS_some, kont_app, ar_nil, ar_guard, ar_mv, ar_pick, ar_new, ar_box, ar_build, ar_buildSl, ar_load, ar_store, ar_nilChk, ar_bin, ar_un, ar_conv, ar_convSB, ar_convBS, ar_mkFunc, ar_mkIface, ar_mkSlice, ar_sl, ar_slStr, ar_fieldA, ar_field, ar_idxA, ar_idxArr, ar_idx, ar_idxS, ar_extract, ar_append, ar_len, ar_call, ar_callv, callvP_func, List.nil_append, List.cons_append, List.append_nil, ar_pf, ar_hf, ar_slA, upO_some, upO_none, sX_t, sX_c, sX_f, sXs, sXO, sXP, fin_t, fin_t2, fin_t3, up_same, up_ne, ne_eq, not_false_eq_true, AVal.bool.injEq, decide_eq_true_eq, decide_eq_false_iff_not, Int.ofNat_eq_natCast, Int.reduceNegSucc, Int.cast_ofNat_Int, reduceCtorEq, bin_lss, bin_leq, bin_gtr, bin_geq, bin_eql, bin_neq, bin_add, bin_sub, bin_mul, Bool.not_eq_true', Bool.not_eq_false', Bool.true_eq_false, Bool.false_eq_true, Nat.reduceEqDiff, ↓reduceIte, if_true, if_false, Nat.reduceAdd, Int.reduceEq, Int.reduceLT, Int.reduceLE, g0, g1, g4, c8', w0, c4', e1, e2, e5, e6, ww y1 d1, ww y2 d2, wa y1 d1, wa y2 d2, s1, s2, s3, s4, small_at d1, small_at1 d1, small_at d2, small_at1 d2, ix (j + 2 + 1) (by omega), ix (j + 2) (by omega), ix (j + 1) (by omega), ix j (by omega), m2, m3, m4, m5]
      refine t _ _ (set2 (set2 m (j + 2) y1) j y2) j x' ?_ (by omega) (by omega) hx' hp ?_ ?_ ?_ r5 (by omega) fun c hc => (k5 c hc).trans ((k3 c hc).trans (ho c hc))
      · simp only [set2_len, hm]
      all_goals simp only [pf_min, undef_bool, str_len, str_eql, str_neq, conv_in, un_not, eq_self, decide_true, decide_false, Bool.not_true, Bool.not_false, argE_0, argE_1, argE_2, argE_3, argE_4, aw_skip, aw_reg, aw_seq, aw_cond, aw_block, aw_exit, aw_ret, inSeq_normal, inSeq_exit, inSeq_ret, inBlk_exit, inBlk_normal, inBlk_ret, OptK_some, OptH_some, OptS_some, kont_app, ar_nil, ar_guard, ar_mv, ar_pick, ar_new, ar_box, ar_build, ar_buildSl, ar_load, ar_store, ar_nilChk, ar_bin, ar_un, ar_conv, ar_convSB, ar_convBS, ar_mkFunc, ar_mkIface, ar_mkSlice, ar_sl, ar_slStr, ar_fieldA, ar_field, ar_idxA, ar_idxArr, ar_idx, ar_idxS, ar_extract, ar_append, ar_len, ar_call, ar_callv, callvP_func, List.nil_append, List.cons_append, List.append_nil, ar_pf, ar_hf, ar_slA, upO_some, upO_none, sX_t, sX_c, sX_f, sXs, sXO, sXP, fin_t, fin_t2, fin_t3, up_same, up_ne, ne_eq, not_false_eq_true, AVal.bool.injEq, decide_eq_true_eq, decide_eq_false_iff_not, Int.ofNat_eq_natCast, Int.reduceNegSucc, Int.cast_ofNat_Int, reduceCtorEq, bin_lss, bin_leq, bin_gtr, bin_geq, bin_eql, bin_neq, bin_add, bin_sub, bin_mul, Bool.not_eq_true', Bool.not_eq_false', Bool.true_eq_false, Bool.false_eq_true, Nat.reduceEqDiff, ↓reduceIte, if_true, if_false, Nat.reduceAdd, Int.reduceEq, Int.reduceLT, Int.reduceLE, g0]
    · have c4' : ¬ (4 : Int) ≤ (i : Int) := by omega
      simp only [pf_min, undef_bool, str_len, str_eql, str_neq, conv_in, un_not, eq_self, decide_true, decide_false, Bool.not_true, Bool.not_false, argE_0, argE_1, argE_2, argE_3, argE_4, aw_skip, aw_reg, aw_seq, aw_cond, aw_block, aw_exit, aw_ret, inSeq_normal, inSeq_exit, inSeq_ret, inBlk_exit, inBlk_normal, inBlk_ret, OptK_some, OptH_some, OptS_some, kont_app, ar_nil, ar_guard, ar_mv, ar_pick, ar_new, ar_box, ar_build, ar_buildSl, ar_load, ar_store, ar_nilChk, ar_bin, ar_un, ar_conv, ar_convSB, ar_convBS, ar_mkFunc, ar_mkIface, ar_mkSlice, ar_sl, ar_slStr, ar_fieldA, ar_field, ar_idxA, ar_idxArr, ar_idx, ar_idxS, ar_extract, ar_append, ar_len, ar_call, ar_callv, callvP_func, List.nil_append, List.cons_append, List.append_nil, ar_pf, ar_hf, ar_slA, upO_some, upO_none, sX_t, sX_c, sX_f, sXs, sXO, sXP, fin_t, fin_t2, fin_t3, up_same, up_ne, ne_eq, not_false_eq_true, AVal.bool.injEq, decide_eq_true_eq, decide_eq_false_iff_not, Int.ofNat_eq_natCast, Int.reduceNegSucc, Int.cast_ofNat_Int, reduceCtorEq, bin_lss, bin_leq, bin_gtr, bin_geq, bin_eql, bin_neq, bin_add, bin_sub, bin_mul, Bool.not_eq_true', Bool.not_eq_false', Bool.true_eq_false, Bool.false_eq_true, Nat.reduceEqDiff, ↓reduceIte, if_true, if_false, Nat.reduceAdd, Int.reduceEq, Int.reduceLT, Int.reduceLE, g0, g1, g4, c8', w0, c4']
      refine t _ _ m i x hm (by omega) hi hx hp ?_ ?_ ?_ hr1 hn ho
      all_goals simp only [pf_min, undef_bool, str_len, str_eql, str_neq, conv_in, un_not, eq_self, decide_true, decide_false, Bool.not_true, Bool.not_false, argE_0, argE_1, argE_2, argE_3, argE_4, aw_skip, aw_reg, aw_seq, aw_cond, aw_block, aw_exit, aw_ret, inSeq_normal, inSeq_exit, inSeq_ret, inBlk_exit, inBlk_normal, inBlk_ret, OptK_some, OptH_some, OptS_some, kont_app, ar_nil, ar_guard, ar_mv, ar_pick, ar_new, ar_box, ar_build, ar_buildSl, ar_load, ar_store, ar_nilChk, ar_bin, ar_un, ar_conv, ar_convSB, ar_convBS, ar_mkFunc, ar_mkIface, ar_mkSlice, ar_sl, ar_slStr, ar_fieldA, ar_field, ar_idxA, ar_idxArr, ar_idx, ar_idxS, ar_extract, ar_append, ar_len, ar_call, ar_callv, callvP_func, List.nil_append, List.cons_append, List.append_nil, ar_pf, ar_hf, ar_slA, upO_some, upO_none, sX_t, sX_c, sX_f, sXs, sXO, sXP, fin_t, fin_t2, fin_t3, up_same, up_ne, ne_eq, not_false_eq_true, AVal.bool.injEq, decide_eq_true_eq, decide_eq_false_iff_not, Int.ofNat_eq_natCast, Int.reduceNegSucc, Int.cast_ofNat_Int, reduceCtorEq, bin_lss, bin_leq, bin_gtr, bin_geq, bin_eql, bin_neq, bin_add, bin_sub, bin_mul, Bool.not_eq_true', Bool.not_eq_false', Bool.true_eq_false, Bool.false_eq_true, Nat.reduceEqDiff, ↓reduceIte, if_true, if_false, Nat.reduceAdd, Int.reduceEq, Int.reduceLT, Int.reduceLE, g0, g4]
end Go.Proofs.Wo
/- Words: AppendUint; how a number is said: the contracts. -/
namespace Go.Proofs.Wo
open Go.Abs Go.Abs.S
set_option linter.unusedSimpArgs false
variable {N : ANat}
theorem map_byts {l : List Nat} (h : ∀ d ∈ l, d ≤ 9) : u8s (l.map (48 + ·)) = byts (asc l) := by
  simp only [u8s, byts, asc, List.map_map]
  apply List.map_congr_left
  intro d hd
  have := h d hd
  have e : (UInt8.ofNat (48 + d)).toNat = 48 + d := by rw [UInt8.toNat_ofNat']; omega
  simp [e]; omega
theorem pd_dig : ∀ (k u : Nat), ∀ d ∈ pd k u, d ≤ 9
  | 0, _, d, h => by simp [pd] at h
  | k + 1, u, d, h => by
    rcases List.mem_append.1 h with h | h
    · exact pd_dig k _ d h
    · simp at h; omega
structure NStr (N : ANat) : Prop where
  (h56 : N.is 56 = false) (h77 : N.is 77 = false) (h78 : N.is 78 = false) (h79 : N.is 79 = false) (h93 : N.is 93 = false) (h94 : N.is 94 = false) (h95 : N.is 95 = false) (h33 : N.is 33 = false)
theorem app_spec (hN : NStr N) {b cap u : Nat} {s : Bs} {H : AHeap} (hb : Buf H b cap s) (hbn : b < H.next) (hn1 : 1 < H.next) (G : Glo H 1 powL) (hu : u < 4294967296) (hf : s.length + 10 ≤ cap) (hc : cap ≤ 1000000) :
    ACalls Tryd.prog N 56 [bufS b cap s.length, .int .u64 (u : Int), .int .i64 10] H fun v H' => v = bufS b cap (s ++ asc (decD u)).length ∧ Buf H' b cap (s ++ asc (decD u)) ∧ H.next ≤ H'.next ∧ ∀ c, c < H.next → c ≠ b → H'.get c = H.get c := by
  refine acalls_ofN hN.h56 za56 rfl ?_
  by_cases c1 : u < 100
  · have c1' : (u : Int) < 100 := by omega
    have w1 : IntKind.i64.wrap (u : Int) = (u : Int) := wrap64 (by omega) (by omega)
    simp only [c56, pf_min, undef_bool, str_len, str_eql, str_neq, conv_in, un_not, eq_self, decide_true, decide_false, Bool.not_true, Bool.not_false, argE_0, argE_1, argE_2, argE_3, argE_4, aw_skip, aw_reg, aw_seq, aw_cond, aw_block, aw_exit, aw_ret, inSeq_normal, inSeq_exit, inSeq_ret, inBlk_exit, inBlk_normal, inBlk_ret, OptK_some, OptH_some, OptS_some, kont_app, ar_nil, ar_guard, ar_mv, ar_pick, ar_new, ar_box, ar_build, ar_buildSl, ar_load, ar_store, ar_nilChk, ar_bin, ar_un, ar_conv, ar_convSB, ar_convBS, ar_mkFunc, ar_mkIface, ar_mkSlice, ar_sl, ar_slStr, ar_fieldA, ar_field, ar_idxA, ar_idxArr, ar_idx, ar_idxS, ar_extract, ar_append, ar_len, ar_call, ar_callv, callvP_func, List.nil_append, List.cons_append, List.append_nil, ar_pf, ar_hf, ar_slA, upO_some, upO_none, sX_t, sX_c, sX_f, sXs, sXO, sXP, fin_t, fin_t2, fin_t3, up_same, up_ne, ne_eq, not_false_eq_true, AVal.bool.injEq, decide_eq_true_eq, decide_eq_false_iff_not, Int.ofNat_eq_natCast, Int.reduceNegSucc, Int.cast_ofNat_Int, reduceCtorEq, bin_lss, bin_leq, bin_gtr, bin_geq, bin_eql, bin_neq, bin_add, bin_sub, bin_mul, Bool.not_eq_true', Bool.not_eq_false', Bool.true_eq_false, Bool.false_eq_true, Nat.reduceEqDiff, ↓reduceIte, if_true, if_false, Nat.reduceAdd, Int.reduceEq, Int.reduceLT, Int.reduceLE, c1', w1]
    refine (small_spec hN.h77 c1).mono ?_
    rintro v _ ⟨rfl, rfl⟩
    have hl := decD_len 9 u (by omega)
    obtain ⟨H2, m2, b2, n2, k2⟩ := ap_buf hb (src_str _ (asc (decD u))) (asc_ne u) (by rw [asc_len]; omega) hc
    simp only [pf_min, undef_bool, str_len, str_eql, str_neq, conv_in, un_not, eq_self, decide_true, decide_false, Bool.not_true, Bool.not_false, argE_0, argE_1, argE_2, argE_3, argE_4, aw_skip, aw_reg, aw_seq, aw_cond, aw_block, aw_exit, aw_ret, inSeq_normal, inSeq_exit, inSeq_ret, inBlk_exit, inBlk_normal, inBlk_ret, OptK_some, OptH_some, OptS_some, kont_app, ar_nil, ar_guard, ar_mv, ar_pick, ar_new, ar_box, ar_build, ar_buildSl, ar_load, ar_store, ar_nilChk, ar_bin, ar_un, ar_conv, ar_convSB, ar_convBS, ar_mkFunc, ar_mkIface, ar_mkSlice, ar_sl, ar_slStr, ar_fieldA, ar_field, ar_idxA, ar_idxArr, ar_idx, ar_idxS, ar_extract, ar_append, ar_len, ar_call, ar_callv, callvP_func, List.nil_append, List.cons_append, List.append_nil, ar_pf, ar_hf, ar_slA, upO_some, upO_none, sX_t, sX_c, sX_f, sXs, sXO, sXP, fin_t, fin_t2, fin_t3, up_same, up_ne, ne_eq, not_false_eq_true, AVal.bool.injEq, decide_eq_true_eq, decide_eq_false_iff_not, Int.ofNat_eq_natCast, Int.reduceNegSucc, Int.cast_ofNat_Int, reduceCtorEq, bin_lss, bin_leq, bin_gtr, bin_geq, bin_eql, bin_neq, bin_add, bin_sub, bin_mul, Bool.not_eq_true', Bool.not_eq_false', Bool.true_eq_false, Bool.false_eq_true, Nat.reduceEqDiff, ↓reduceIte, if_true, if_false, Nat.reduceAdd, Int.reduceEq, Int.reduceLT, Int.reduceLE, m2]
    exact ⟨by trivial, b2, by omega, fun c _ hne => k2 c hne⟩
  · have c1' : ¬ (u : Int) < 100 := by omega
    obtain ⟨H1, m1, r1, n1, k1⟩ := row_newL H (u8s (List.replicate 24 0)) (n := 24) rfl
    have hz : u8s (List.replicate 24 0) = [.int .u8 0, .int .u8 0, .int .u8 0, .int .u8 0, .int .u8 0, .int .u8 0, .int .u8 0, .int .u8 0, .int .u8 0, .int .u8 0, .int .u8 0, .int .u8 0, .int .u8 0, .int .u8 0, .int .u8 0, .int .u8 0, .int .u8 0, .int .u8 0, .int .u8 0, .int .u8 0, .int .u8 0, .int .u8 0, .int .u8 0, .int .u8 0] := rfl
    rw [hz] at m1
    simp only [c56, pf_min, undef_bool, str_len, str_eql, str_neq, conv_in, un_not, eq_self, decide_true, decide_false, Bool.not_true, Bool.not_false, argE_0, argE_1, argE_2, argE_3, argE_4, aw_skip, aw_reg, aw_seq, aw_cond, aw_block, aw_exit, aw_ret, inSeq_normal, inSeq_exit, inSeq_ret, inBlk_exit, inBlk_normal, inBlk_ret, OptK_some, OptH_some, OptS_some, kont_app, ar_nil, ar_guard, ar_mv, ar_pick, ar_new, ar_box, ar_build, ar_buildSl, ar_load, ar_store, ar_nilChk, ar_bin, ar_un, ar_conv, ar_convSB, ar_convBS, ar_mkFunc, ar_mkIface, ar_mkSlice, ar_sl, ar_slStr, ar_fieldA, ar_field, ar_idxA, ar_idxArr, ar_idx, ar_idxS, ar_extract, ar_append, ar_len, ar_call, ar_callv, callvP_func, List.nil_append, List.cons_append, List.append_nil, ar_pf, ar_hf, ar_slA, upO_some, upO_none, sX_t, sX_c, sX_f, sXs, sXO, sXP, fin_t, fin_t2, fin_t3, up_same, up_ne, ne_eq, not_false_eq_true, AVal.bool.injEq, decide_eq_true_eq, decide_eq_false_iff_not, Int.ofNat_eq_natCast, Int.reduceNegSucc, Int.cast_ofNat_Int, reduceCtorEq, bin_lss, bin_leq, bin_gtr, bin_geq, bin_eql, bin_neq, bin_add, bin_sub, bin_mul, Bool.not_eq_true', Bool.not_eq_false', Bool.true_eq_false, Bool.false_eq_true, Nat.reduceEqDiff, ↓reduceIte, if_true, if_false, Nat.reduceAdd, Int.reduceEq, Int.reduceLT, Int.reduceLE, c1', m1]
    have G1 : Glo H1 1 powL := by unfold Glo; rw [k1 1 (by omega)]; exact G
    refine (digits_spec hN.h78 hN.h93 hN.h94 hN.h95 (u := u) (by omega) hu G1).mono ?_
    rintro v _ ⟨⟨k, rfl, q1, q2, q3⟩, rfl⟩
    simp only [pf_min, undef_bool, str_len, str_eql, str_neq, conv_in, un_not, eq_self, decide_true, decide_false, Bool.not_true, Bool.not_false, argE_0, argE_1, argE_2, argE_3, argE_4, aw_skip, aw_reg, aw_seq, aw_cond, aw_block, aw_exit, aw_ret, inSeq_normal, inSeq_exit, inSeq_ret, inBlk_exit, inBlk_normal, inBlk_ret, OptK_some, OptH_some, OptS_some, kont_app, ar_nil, ar_guard, ar_mv, ar_pick, ar_new, ar_box, ar_build, ar_buildSl, ar_load, ar_store, ar_nilChk, ar_bin, ar_un, ar_conv, ar_convSB, ar_convBS, ar_mkFunc, ar_mkIface, ar_mkSlice, ar_sl, ar_slStr, ar_fieldA, ar_field, ar_idxA, ar_idxArr, ar_idx, ar_idxS, ar_extract, ar_append, ar_len, ar_call, ar_callv, callvP_func, List.nil_append, List.cons_append, List.append_nil, ar_pf, ar_hf, ar_slA, upO_some, upO_none, sX_t, sX_c, sX_f, sXs, sXO, sXP, fin_t, fin_t2, fin_t3, up_same, up_ne, ne_eq, not_false_eq_true, AVal.bool.injEq, decide_eq_true_eq, decide_eq_false_iff_not, Int.ofNat_eq_natCast, Int.reduceNegSucc, Int.cast_ofNat_Int, reduceCtorEq, bin_lss, bin_leq, bin_gtr, bin_geq, bin_eql, bin_neq, bin_add, bin_sub, bin_mul, Bool.not_eq_true', Bool.not_eq_false', Bool.true_eq_false, Bool.false_eq_true, Nat.reduceEqDiff, ↓reduceIte, if_true, if_false, Nat.reduceAdd, Int.reduceEq, Int.reduceLT, Int.reduceLE, slA_buf (show k + 1 ≤ 24 by omega) (by omega)]
    refine (fmt_spec hN.h79 r1 (by simp) (show k + 1 ≤ 24 by omega) q2 (by omega)).mono ?_
    rintro v H2 ⟨r2, n2, k2⟩
    have hB : Buf H2 H.next 24 (asc (decD u)) := by
      refine ⟨_, r2, by rw [u8s_len, put_len]; simp, ?_⟩
      rw [put_spec _ _ _ (by simp; omega), pd_dec k u q1 q2]
      have e : u8s ((decD u).map (48 + ·)) = byts (asc (decD u)) := by
        rw [← pd_dec k u q1 q2]; exact map_byts (pd_dig _ _)
      simp only [u8s, List.map_append] at e ⊢
      rw [e]
      have : (asc (decD u)).length = (byts (asc (decD u))).length := by rw [byts_len]
      rw [this, List.take_left]
    have hlen : (asc (decD u)).length = k + 1 := by rw [asc_len, ← pd_dec k u q1 q2, pd_len]
    have hb2 : Buf H2 b cap s := by
      refine hb.same ?_
      rw [k2 b (by omega), k1 b (by omega)]
    have hs := buf_src hB (by omega)
    obtain ⟨H3, m3, b3, n3, k3⟩ := ap_buf hb2 hs (asc_ne u) (by omega) hc
    rw [hlen] at m3
    simp only [pf_min, undef_bool, str_len, str_eql, str_neq, conv_in, un_not, eq_self, decide_true, decide_false, Bool.not_true, Bool.not_false, argE_0, argE_1, argE_2, argE_3, argE_4, aw_skip, aw_reg, aw_seq, aw_cond, aw_block, aw_exit, aw_ret, inSeq_normal, inSeq_exit, inSeq_ret, inBlk_exit, inBlk_normal, inBlk_ret, OptK_some, OptH_some, OptS_some, kont_app, ar_nil, ar_guard, ar_mv, ar_pick, ar_new, ar_box, ar_build, ar_buildSl, ar_load, ar_store, ar_nilChk, ar_bin, ar_un, ar_conv, ar_convSB, ar_convBS, ar_mkFunc, ar_mkIface, ar_mkSlice, ar_sl, ar_slStr, ar_fieldA, ar_field, ar_idxA, ar_idxArr, ar_idx, ar_idxS, ar_extract, ar_append, ar_len, ar_call, ar_callv, callvP_func, List.nil_append, List.cons_append, List.append_nil, ar_pf, ar_hf, ar_slA, upO_some, upO_none, sX_t, sX_c, sX_f, sXs, sXO, sXP, fin_t, fin_t2, fin_t3, up_same, up_ne, ne_eq, not_false_eq_true, AVal.bool.injEq, decide_eq_true_eq, decide_eq_false_iff_not, Int.ofNat_eq_natCast, Int.reduceNegSucc, Int.cast_ofNat_Int, reduceCtorEq, bin_lss, bin_leq, bin_gtr, bin_geq, bin_eql, bin_neq, bin_add, bin_sub, bin_mul, Bool.not_eq_true', Bool.not_eq_false', Bool.true_eq_false, Bool.false_eq_true, Nat.reduceEqDiff, ↓reduceIte, if_true, if_false, Nat.reduceAdd, Int.reduceEq, Int.reduceLT, Int.reduceLE, slA_buf (show k + 1 ≤ 24 by omega) (by omega), m3]
    exact ⟨by trivial, b3, by omega, fun c hc hne => by rw [k3 c hne, k2 c (by omega), k1 c (by omega)]⟩
theorem append_spec (hN : NStr N) {b cap u : Nat} {s : Bs} {H : AHeap} (hb : Buf H b cap s) (hbn : b < H.next) (hn1 : 1 < H.next) (G : Glo H 1 powL) (hu : u < 4294967296) (hf : s.length + 10 ≤ cap) (hc : cap ≤ 1000000) :
    ACalls Tryd.prog N 33 [bufS b cap s.length, .int .u64 (u : Int), .int .i64 10] H fun v H' => v = bufS b cap (s ++ asc (decD u)).length ∧ Buf H' b cap (s ++ asc (decD u)) ∧ H.next ≤ H'.next ∧ ∀ c, c < H.next → c ≠ b → H'.get c = H.get c := by
  refine acalls_ofN hN.h33 za33 rfl ?_
  simp only [c33, pf_min, undef_bool, str_len, str_eql, str_neq, conv_in, un_not, eq_self, decide_true, decide_false, Bool.not_true, Bool.not_false, argE_0, argE_1, argE_2, argE_3, argE_4, aw_skip, aw_reg, aw_seq, aw_cond, aw_block, aw_exit, aw_ret, inSeq_normal, inSeq_exit, inSeq_ret, inBlk_exit, inBlk_normal, inBlk_ret, OptK_some, OptH_some, OptS_some, kont_app, ar_nil, ar_guard, ar_mv, ar_pick, ar_new, ar_box, ar_build, ar_buildSl, ar_load, ar_store, ar_nilChk, ar_bin, ar_un, ar_conv, ar_convSB, ar_convBS, ar_mkFunc, ar_mkIface, ar_mkSlice, ar_sl, ar_slStr, ar_fieldA, ar_field, ar_idxA, ar_idxArr, ar_idx, ar_idxS, ar_extract, ar_append, ar_len, ar_call, ar_callv, callvP_func, List.nil_append, List.cons_append, List.append_nil, ar_pf, ar_hf, ar_slA, upO_some, upO_none, sX_t, sX_c, sX_f, sXs, sXO, sXP, fin_t, fin_t2, fin_t3, up_same, up_ne, ne_eq, not_false_eq_true, AVal.bool.injEq, decide_eq_true_eq, decide_eq_false_iff_not, Int.ofNat_eq_natCast, Int.reduceNegSucc, Int.cast_ofNat_Int, reduceCtorEq, bin_lss, bin_leq, bin_gtr, bin_geq, bin_eql, bin_neq, bin_add, bin_sub, bin_mul, Bool.not_eq_true', Bool.not_eq_false', Bool.true_eq_false, Bool.false_eq_true, Nat.reduceEqDiff, ↓reduceIte, if_true, if_false, Nat.reduceAdd, Int.reduceEq, Int.reduceLT, Int.reduceLE]
  refine (app_spec hN hb hbn hn1 G hu hf hc).mono ?_
  rintro v H' ⟨rfl, h⟩
  simp only [pf_min, undef_bool, str_len, str_eql, str_neq, conv_in, un_not, eq_self, decide_true, decide_false, Bool.not_true, Bool.not_false, argE_0, argE_1, argE_2, argE_3, argE_4, aw_skip, aw_reg, aw_seq, aw_cond, aw_block, aw_exit, aw_ret, inSeq_normal, inSeq_exit, inSeq_ret, inBlk_exit, inBlk_normal, inBlk_ret, OptK_some, OptH_some, OptS_some, kont_app, ar_nil, ar_guard, ar_mv, ar_pick, ar_new, ar_box, ar_build, ar_buildSl, ar_load, ar_store, ar_nilChk, ar_bin, ar_un, ar_conv, ar_convSB, ar_convBS, ar_mkFunc, ar_mkIface, ar_mkSlice, ar_sl, ar_slStr, ar_fieldA, ar_field, ar_idxA, ar_idxArr, ar_idx, ar_idxS, ar_extract, ar_append, ar_len, ar_call, ar_callv, callvP_func, List.nil_append, List.cons_append, List.append_nil, ar_pf, ar_hf, ar_slA, upO_some, upO_none, sX_t, sX_c, sX_f, sXs, sXO, sXP, fin_t, fin_t2, fin_t3, up_same, up_ne, ne_eq, not_false_eq_true, AVal.bool.injEq, decide_eq_true_eq, decide_eq_false_iff_not, Int.ofNat_eq_natCast, Int.reduceNegSucc, Int.cast_ofNat_Int, reduceCtorEq, bin_lss, bin_leq, bin_gtr, bin_geq, bin_eql, bin_neq, bin_add, bin_sub, bin_mul, Bool.not_eq_true', Bool.not_eq_false', Bool.true_eq_false, Bool.false_eq_true, Nat.reduceEqDiff, ↓reduceIte, if_true, if_false, Nat.reduceAdd, Int.reduceEq, Int.reduceLT, Int.reduceLE]
  exact ⟨by trivial, h⟩
def pre9 (t : ACode) : ACode := match c9.body with
  | .seq a (.seq b (.seq c (.seq d _))) => .seq a (.seq b (.seq c (.seq d t)))
  | x => x
def code9 : ACode := seq2 (seq2 (seq2 (seq2 c9.body)))
theorem tail9 (hN : NStr N) {H0 : AHeap} (hn0 : 1 < H0.next) (G : Glo H0 1 powL) {sg : Bs} (hsg : sg.length ≤ 1) {n : Nat} (hn : n ≤ 9223372036854775808) {T : Env} {H : AHeap} {b : Nat} (hb : Buf H b 48 sg) (hb0 : H0.next ≤ b) (hbn : b < H.next) (hE : Ext H0.next H0 H)
    (g3 : T 3 = .int .u64 (n : Int)) (g4 : T 4 = bufS b 48 sg.length) :
    wp (ACalls Tryd.prog N) code9 (fin c9.res fun v H' => v = .str (sg ++ (asc (decD (n / 4294967296)) ++ tailF (n % 4294967296))) ∧ Ext H0.next H0 H') T H := by
  have e1 := shrN .u64 .u64 n (b := 32) (by decide)
  simp only [Int.cast_ofNat_Int, Nat.reducePow] at e1
  have e2 := bin_andU64 (a := n) (b := 4294967295) (by omega) (by decide)
  have e2' : n &&& 4294967295 = n % 4294967296 := Nat.and_two_pow_sub_one_eq_mod n 32
  rw [e2'] at e2
  simp only [Int.cast_ofNat_Int] at e2
  have hl10 : (asc (decD (n / 4294967296))).length ≤ 10 := by rw [asc_len]; exact decD_len 9 _ (by omega)
  simp only [code9, seq2, c9, pf_min, undef_bool, str_len, str_eql, str_neq, conv_in, un_not, eq_self, decide_true, decide_false, Bool.not_true, Bool.not_false, argE_0, argE_1, argE_2, argE_3, argE_4, aw_skip, aw_reg, aw_seq, aw_cond, aw_block, aw_exit, aw_ret, inSeq_normal, inSeq_exit, inSeq_ret, inBlk_exit, inBlk_normal, inBlk_ret, OptK_some, OptH_some, OptS_some, kont_app, ar_nil, ar_guard, ar_mv, ar_pick, ar_new, ar_box, ar_build, ar_buildSl, ar_load, ar_store, ar_nilChk, ar_bin, ar_un, ar_conv, ar_convSB, ar_convBS, ar_mkFunc, ar_mkIface, ar_mkSlice, ar_sl, ar_slStr, ar_fieldA, ar_field, ar_idxA, ar_idxArr, ar_idx, ar_idxS, ar_extract, ar_append, ar_len, ar_call, ar_callv, callvP_func, List.nil_append, List.cons_append, List.append_nil, ar_pf, ar_hf, ar_slA, upO_some, upO_none, sX_t, sX_c, sX_f, sXs, sXO, sXP, fin_t, fin_t2, fin_t3, up_same, up_ne, ne_eq, not_false_eq_true, AVal.bool.injEq, decide_eq_true_eq, decide_eq_false_iff_not, Int.ofNat_eq_natCast, Int.reduceNegSucc, Int.cast_ofNat_Int, reduceCtorEq, bin_lss, bin_leq, bin_gtr, bin_geq, bin_eql, bin_neq, bin_add, bin_sub, bin_mul, Bool.not_eq_true', Bool.not_eq_false', Bool.true_eq_false, Bool.false_eq_true, Nat.reduceEqDiff, ↓reduceIte, if_true, if_false, Nat.reduceAdd, Int.reduceEq, Int.reduceLT, Int.reduceLE, g3, g4, e1]
  refine (append_spec hN hb hbn (by have := hE.next; omega) (G.ext hn0 hE) (show n / 4294967296 < 4294967296 by omega) (by omega) (by omega)).mono ?_
  rintro v H1 ⟨rfl, hb1, hn1, ho1⟩
  have hE1 : Ext H0.next H0 H1 := ⟨by have := hE.next; omega, fun c hc => by rw [ho1 c (by have := hE.next; omega) (by omega), hE.old c hc]⟩
  have hr : n % 4294967296 < 4294967296 := by omega
  generalize n % 4294967296 = r at *
  generalize asc (decD (n / 4294967296)) = w at *
  have hbn1 : b < H1.next := by omega
  clear hb hbn hE ho1 hn1
  by_cases hr0 : r = 0
  · subst hr0
    have hbs := bs_buf hb1 (by simp; omega)
    simp only [pf_min, undef_bool, str_len, str_eql, str_neq, conv_in, un_not, eq_self, decide_true, decide_false, Bool.not_true, Bool.not_false, argE_0, argE_1, argE_2, argE_3, argE_4, aw_skip, aw_reg, aw_seq, aw_cond, aw_block, aw_exit, aw_ret, inSeq_normal, inSeq_exit, inSeq_ret, inBlk_exit, inBlk_normal, inBlk_ret, OptK_some, OptH_some, OptS_some, kont_app, ar_nil, ar_guard, ar_mv, ar_pick, ar_new, ar_box, ar_build, ar_buildSl, ar_load, ar_store, ar_nilChk, ar_bin, ar_un, ar_conv, ar_convSB, ar_convBS, ar_mkFunc, ar_mkIface, ar_mkSlice, ar_sl, ar_slStr, ar_fieldA, ar_field, ar_idxA, ar_idxArr, ar_idx, ar_idxS, ar_extract, ar_append, ar_len, ar_call, ar_callv, callvP_func, List.nil_append, List.cons_append, List.append_nil, ar_pf, ar_hf, ar_slA, upO_some, upO_none, sX_t, sX_c, sX_f, sXs, sXO, sXP, fin_t, fin_t2, fin_t3, up_same, up_ne, ne_eq, not_false_eq_true, AVal.bool.injEq, decide_eq_true_eq, decide_eq_false_iff_not, Int.ofNat_eq_natCast, Int.reduceNegSucc, Int.cast_ofNat_Int, reduceCtorEq, bin_lss, bin_leq, bin_gtr, bin_geq, bin_eql, bin_neq, bin_add, bin_sub, bin_mul, Bool.not_eq_true', Bool.not_eq_false', Bool.true_eq_false, Bool.false_eq_true, Nat.reduceEqDiff, ↓reduceIte, if_true, if_false, Nat.reduceAdd, Int.reduceEq, Int.reduceLT, Int.reduceLE, g3, e2, hbs]
    exact ⟨by simp [tailF], hE1⟩
  · have hz : ¬ ((r : Nat) : Int) = 0 := by omega
    have ht : tailF r = [46] ++ asc (fracD 32 r) := by rw [tailF, if_neg hr0]; rfl
    rw [ht]
    have hb2 : Buf (H1.push (.cells [.int .u8 46] 0 false)) b 48 (sg ++ w) := hb1.same (get_push_lt hbn1)
    obtain ⟨H2, m2, b2, n2, k2⟩ := ap_buf hb2 (x := [46]) (src1 H1 (.int .u8 46)) (by simp) (by simp; omega) (by omega)
    have hE2 : Ext H0.next H0 H2 := ⟨by rw [n2, push_next]; have := hE1.next; omega, fun c hc => by rw [k2 c (by omega), get_push_lt (by have := hE1.next; omega), hE1.old c hc]⟩
    have hbn2 : b < H2.next := by rw [n2, push_next]; omega
    simp only [pf_min, undef_bool, str_len, str_eql, str_neq, conv_in, un_not, eq_self, decide_true, decide_false, Bool.not_true, Bool.not_false, argE_0, argE_1, argE_2, argE_3, argE_4, aw_skip, aw_reg, aw_seq, aw_cond, aw_block, aw_exit, aw_ret, inSeq_normal, inSeq_exit, inSeq_ret, inBlk_exit, inBlk_normal, inBlk_ret, OptK_some, OptH_some, OptS_some, kont_app, ar_nil, ar_guard, ar_mv, ar_pick, ar_new, ar_box, ar_build, ar_buildSl, ar_load, ar_store, ar_nilChk, ar_bin, ar_un, ar_conv, ar_convSB, ar_convBS, ar_mkFunc, ar_mkIface, ar_mkSlice, ar_sl, ar_slStr, ar_fieldA, ar_field, ar_idxA, ar_idxArr, ar_idx, ar_idxS, ar_extract, ar_append, ar_len, ar_call, ar_callv, callvP_func, List.nil_append, List.cons_append, List.append_nil, ar_pf, ar_hf, ar_slA, upO_some, upO_none, sX_t, sX_c, sX_f, sXs, sXO, sXP, fin_t, fin_t2, fin_t3, up_same, up_ne, ne_eq, not_false_eq_true, AVal.bool.injEq, decide_eq_true_eq, decide_eq_false_iff_not, Int.ofNat_eq_natCast, Int.reduceNegSucc, Int.cast_ofNat_Int, reduceCtorEq, bin_lss, bin_leq, bin_gtr, bin_geq, bin_eql, bin_neq, bin_add, bin_sub, bin_mul, Bool.not_eq_true', Bool.not_eq_false', Bool.true_eq_false, Bool.false_eq_true, Nat.reduceEqDiff, ↓reduceIte, if_true, if_false, Nat.reduceAdd, Int.reduceEq, Int.reduceLT, Int.reduceLE, g3, e2, hz, build1 _ _ (x := .int .u8 46) rfl, m2]
    refine aw_loop (fun q (T : Env) H' => ∃ (x : Nat) (acc : Bs), q ≤ 32 ∧ x < 4294967296 ∧ 2 ^ (32 - q) ∣ x ∧ acc.length + q ≤ 44 ∧ T 5 = .int .u64 (x : Int) ∧ T 4 = bufS b 48 acc.length ∧ Buf H' b 48 acc ∧ b < H'.next ∧ acc ++ asc (fracD q x) = sg ++ (w ++ ([46] ++ asc (fracD 32 r))) ∧ Ext H0.next H0 H') 32
      ⟨r, sg ++ w ++ [46], Nat.le_refl _, hr, by simp, by simp; omega, by simp only [pf_min, undef_bool, str_len, str_eql, str_neq, conv_in, un_not, eq_self, decide_true, decide_false, Bool.not_true, Bool.not_false, argE_0, argE_1, argE_2, argE_3, argE_4, aw_skip, aw_reg, aw_seq, aw_cond, aw_block, aw_exit, aw_ret, inSeq_normal, inSeq_exit, inSeq_ret, inBlk_exit, inBlk_normal, inBlk_ret, OptK_some, OptH_some, OptS_some, kont_app, ar_nil, ar_guard, ar_mv, ar_pick, ar_new, ar_box, ar_build, ar_buildSl, ar_load, ar_store, ar_nilChk, ar_bin, ar_un, ar_conv, ar_convSB, ar_convBS, ar_mkFunc, ar_mkIface, ar_mkSlice, ar_sl, ar_slStr, ar_fieldA, ar_field, ar_idxA, ar_idxArr, ar_idx, ar_idxS, ar_extract, ar_append, ar_len, ar_call, ar_callv, callvP_func, List.nil_append, List.cons_append, List.append_nil, ar_pf, ar_hf, ar_slA, upO_some, upO_none, sX_t, sX_c, sX_f, sXs, sXO, sXP, fin_t, fin_t2, fin_t3, up_same, up_ne, ne_eq, not_false_eq_true, AVal.bool.injEq, decide_eq_true_eq, decide_eq_false_iff_not, Int.ofNat_eq_natCast, Int.reduceNegSucc, Int.cast_ofNat_Int, reduceCtorEq, bin_lss, bin_leq, bin_gtr, bin_geq, bin_eql, bin_neq, bin_add, bin_sub, bin_mul, Bool.not_eq_true', Bool.not_eq_false', Bool.true_eq_false, Bool.false_eq_true, Nat.reduceEqDiff, ↓reduceIte, if_true, if_false, Nat.reduceAdd, Int.reduceEq, Int.reduceLT, Int.reduceLE], by simp only [pf_min, undef_bool, str_len, str_eql, str_neq, conv_in, un_not, eq_self, decide_true, decide_false, Bool.not_true, Bool.not_false, argE_0, argE_1, argE_2, argE_3, argE_4, aw_skip, aw_reg, aw_seq, aw_cond, aw_block, aw_exit, aw_ret, inSeq_normal, inSeq_exit, inSeq_ret, inBlk_exit, inBlk_normal, inBlk_ret, OptK_some, OptH_some, OptS_some, kont_app, ar_nil, ar_guard, ar_mv, ar_pick, ar_new, ar_box, ar_build, ar_buildSl, ar_load, ar_store, ar_nilChk, ar_bin, ar_un, ar_conv, ar_convSB, ar_convBS, ar_mkFunc, ar_mkIface, ar_mkSlice, ar_sl, ar_slStr, ar_fieldA, ar_field, ar_idxA, ar_idxArr, ar_idx, ar_idxS, ar_extract, ar_append, ar_len, ar_call, ar_callv, callvP_func, List.nil_append, List.cons_append, List.append_nil, ar_pf, ar_hf, ar_slA, upO_some, upO_none, sX_t, sX_c, sX_f, sXs, sXO, sXP, fin_t, fin_t2, fin_t3, up_same, up_ne, ne_eq, not_false_eq_true, AVal.bool.injEq, decide_eq_true_eq, decide_eq_false_iff_not, Int.ofNat_eq_natCast, Int.reduceNegSucc, Int.cast_ofNat_Int, reduceCtorEq, bin_lss, bin_leq, bin_gtr, bin_geq, bin_eql, bin_neq, bin_add, bin_sub, bin_mul, Bool.not_eq_true', Bool.not_eq_false', Bool.true_eq_false, Bool.false_eq_true, Nat.reduceEqDiff, ↓reduceIte, if_true, if_false, Nat.reduceAdd, Int.reduceEq, Int.reduceLT, Int.reduceLE], b2, hbn2, by simp, hE2⟩ ?_
    clear g3 g4 hb1 hb2 b2 m2 n2 k2 hE1 hE2 hbn1 hbn2 T H H1 H2 e1 e2 hz
    rintro q T H1 ⟨x, acc, hq, hx, hdv, hal, g5, g4, hb1, hbn1, hA, hE1⟩
    by_cases hx0 : x = 0
    · subst hx0
      have hf : fracD q 0 = [] := by cases q <;> simp [fracD]
      rw [hf] at hA
      simp only [asc, List.map_nil, List.append_nil] at hA
      have hbs := bs_buf hb1 (by omega)
      simp only [pf_min, undef_bool, str_len, str_eql, str_neq, conv_in, un_not, eq_self, decide_true, decide_false, Bool.not_true, Bool.not_false, argE_0, argE_1, argE_2, argE_3, argE_4, aw_skip, aw_reg, aw_seq, aw_cond, aw_block, aw_exit, aw_ret, inSeq_normal, inSeq_exit, inSeq_ret, inBlk_exit, inBlk_normal, inBlk_ret, OptK_some, OptH_some, OptS_some, kont_app, ar_nil, ar_guard, ar_mv, ar_pick, ar_new, ar_box, ar_build, ar_buildSl, ar_load, ar_store, ar_nilChk, ar_bin, ar_un, ar_conv, ar_convSB, ar_convBS, ar_mkFunc, ar_mkIface, ar_mkSlice, ar_sl, ar_slStr, ar_fieldA, ar_field, ar_idxA, ar_idxArr, ar_idx, ar_idxS, ar_extract, ar_append, ar_len, ar_call, ar_callv, callvP_func, List.nil_append, List.cons_append, List.append_nil, ar_pf, ar_hf, ar_slA, upO_some, upO_none, sX_t, sX_c, sX_f, sXs, sXO, sXP, fin_t, fin_t2, fin_t3, up_same, up_ne, ne_eq, not_false_eq_true, AVal.bool.injEq, decide_eq_true_eq, decide_eq_false_iff_not, Int.ofNat_eq_natCast, Int.reduceNegSucc, Int.cast_ofNat_Int, reduceCtorEq, bin_lss, bin_leq, bin_gtr, bin_geq, bin_eql, bin_neq, bin_add, bin_sub, bin_mul, Bool.not_eq_true', Bool.not_eq_false', Bool.true_eq_false, Bool.false_eq_true, Nat.reduceEqDiff, ↓reduceIte, if_true, if_false, Nat.reduceAdd, Int.reduceEq, Int.reduceLT, Int.reduceLE, g4, g5, hbs, Int.cast_ofNat_Int]
      exact ⟨by rw [hA]; rfl, hE1⟩
    · obtain ⟨k', rfl, hf, hdv'⟩ := frac_step hq hx hdv hx0
      have hz : ¬ ((x : Nat) : Int) = 0 := by omega
      have w1 : IntKind.u64.wrap ((x : Int) * 10) = ((x * 10 : Nat) : Int) := by rw [wrapU64 (by omega) (by omega)]; omega
      have e1 := shrN .u64 .u64 (x * 10) (b := 32) (by decide)
      simp only [Int.cast_ofNat_Int, Nat.reducePow] at e1
      have e2 := bin_andU64 (a := x * 10) (b := 4294967295) (by omega) (by decide)
      have e2' : x * 10 &&& 4294967295 = x * 10 % 4294967296 := Nat.and_two_pow_sub_one_eq_mod (x * 10) 32
      rw [e2'] at e2
      simp only [Int.cast_ofNat_Int] at e2
      have w4 : IntKind.u8.wrap ((x * 10 / 4294967296 : Nat) : Int) = ((x * 10 / 4294967296 : Nat) : Int) := wrapU8 (by omega) (by omega)
      have w5 : IntKind.u8.wrap (48 + ((x * 10 / 4294967296 : Nat) : Int)) = ((48 + x * 10 / 4294967296 : Nat) : Int) := by rw [wrapU8 (by omega) (by omega)]; omega
      have hd : x * 10 / 4294967296 < 10 := by omega
      have hu : (UInt8.ofNat (48 + x * 10 / 4294967296)).toNat = 48 + x * 10 / 4294967296 := by rw [UInt8.toNat_ofNat']; omega
      have hb2 : Buf (H1.push (.cells [.int .u8 ((48 + x * 10 / 4294967296 : Nat) : Int)] 0 false)) b 48 acc := hb1.same (get_push_lt hbn1)
      have hsrc := src1 H1 (.int .u8 ((48 + x * 10 / 4294967296 : Nat) : Int))
      have hby : [AVal.int .u8 ((48 + x * 10 / 4294967296 : Nat) : Int)] = byts [UInt8.ofNat (48 + x * 10 / 4294967296)] := by simp only [byts, List.map_cons, List.map_nil, hu]
      obtain ⟨H2, m2, b2, n2, k2⟩ := ap_buf hb2 (x := [UInt8.ofNat (48 + x * 10 / 4294967296)]) (by rw [← hby]; exact hsrc) (by simp) (by simp; omega) (by omega)
      have hE2 : Ext H0.next H0 H2 := ⟨by rw [n2, push_next]; have := hE1.next; omega, fun c hc => by rw [k2 c (by omega), get_push_lt (by have := hE1.next; omega), hE1.old c hc]⟩
      simp only [pf_min, undef_bool, str_len, str_eql, str_neq, conv_in, un_not, eq_self, decide_true, decide_false, Bool.not_true, Bool.not_false, argE_0, argE_1, argE_2, argE_3, argE_4, aw_skip, aw_reg, aw_seq, aw_cond, aw_block, aw_exit, aw_ret, inSeq_normal, inSeq_exit, inSeq_ret, inBlk_exit, inBlk_normal, inBlk_ret, OptK_some, OptH_some, OptS_some, kont_app, ar_nil, ar_guard, ar_mv, ar_pick, ar_new, ar_box, ar_build, ar_buildSl, ar_load, ar_store, ar_nilChk, ar_bin, ar_un, ar_conv, ar_convSB, ar_convBS, ar_mkFunc, ar_mkIface, ar_mkSlice, ar_sl, ar_slStr, ar_fieldA, ar_field, ar_idxA, ar_idxArr, ar_idx, ar_idxS, ar_extract, ar_append, ar_len, ar_call, ar_callv, callvP_func, List.nil_append, List.cons_append, List.append_nil, ar_pf, ar_hf, ar_slA, upO_some, upO_none, sX_t, sX_c, sX_f, sXs, sXO, sXP, fin_t, fin_t2, fin_t3, up_same, up_ne, ne_eq, not_false_eq_true, AVal.bool.injEq, decide_eq_true_eq, decide_eq_false_iff_not, Int.ofNat_eq_natCast, Int.reduceNegSucc, Int.cast_ofNat_Int, reduceCtorEq, bin_lss, bin_leq, bin_gtr, bin_geq, bin_eql, bin_neq, bin_add, bin_sub, bin_mul, Bool.not_eq_true', Bool.not_eq_false', Bool.true_eq_false, Bool.false_eq_true, Nat.reduceEqDiff, ↓reduceIte, if_true, if_false, Nat.reduceAdd, Int.reduceEq, Int.reduceLT, Int.reduceLE, g4, g5, hz, w1, e1, e2, w4, w5, build1 _ _ (x := .int .u8 ((48 + x * 10 / 4294967296 : Nat) : Int)) rfl, m2]
      refine ⟨k', by omega, x * 10 % 4294967296, _, by omega, by omega, hdv', ?_, by trivial, rfl, b2, by rw [n2, push_next]; omega, ?_, hE2⟩
      · simp; omega
      · refine Eq.trans ?_ hA
        rw [hf]; simp [asc]
theorem said_spec (hN : NStr N) (h9 : N.is 9 = false) {n : Int} (h1 : -9223372036854775808 ≤ n) (h2 : n ≤ 9223372036854775807) {H : AHeap} (hn : 1 < H.next) (G : Glo H 1 powL) :
    ACalls Tryd.prog N 9 [.int .i64 n] H fun v H' => v = .str (numeralF n) ∧ Ext H.next H H' := by
  refine acalls_ofN h9 za9 rfl ?_
  have hsz : n.natAbs ≤ 9223372036854775808 := by omega
  obtain ⟨H1, m1, b1, n1, k1⟩ := buf_make (H := H) (.int .u8 0) 48 (by omega)
  simp only [Int.cast_ofNat_Int] at m1
  have hE1 : Ext H.next H H1 := Ext.of_new n1 k1 (Nat.le_refl _)
  by_cases hneg : n < 0
  · have w1 : IntKind.u64.wrap n = n + 18446744073709551616 := by rw [IntKind.wrap_u64]; omega
    have w2 : IntKind.u64.wrap (0 - (n + 18446744073709551616)) = (n.natAbs : Int) := by rw [IntKind.wrap_u64]; omega
    have hd : numeralF n = [45] ++ (asc (decD (n.natAbs / 4294967296)) ++ tailF (n.natAbs % 4294967296)) := by rw [numeralF, if_pos hneg]
    rw [hd]
    have hb2 : Buf (H1.push (.cells [.int .u8 45] 0 false)) H.next 48 [] := b1.same (get_push_lt (by omega))
    obtain ⟨H2, m2, b2, n2, k2⟩ := ap_buf hb2 (x := [45]) (src1 H1 (.int .u8 45)) (by simp) (by simp) (by omega)
    simp only [List.length_nil] at m2
    have hE2 : Ext H.next H H2 := ⟨by rw [n2, push_next]; omega, fun c hc => by rw [k2 c (by omega), get_push_lt (by omega), hE1.old c hc]⟩
    have t := fun (T : Env) g3 g4 => tail9 hN (H0 := H) hn G (sg := [45]) (by simp) (n := n.natAbs) hsz (T := T) (H := H2) (b := H.next) b2 (Nat.le_refl _) (by rw [n2, push_next]; omega) hE2 g3 g4
    show wp _ (pre9 code9) (fin c9.res _) _ _
    simp only [pre9, c9, pf_min, undef_bool, str_len, str_eql, str_neq, conv_in, un_not, eq_self, decide_true, decide_false, Bool.not_true, Bool.not_false, argE_0, argE_1, argE_2, argE_3, argE_4, aw_skip, aw_reg, aw_seq, aw_cond, aw_block, aw_exit, aw_ret, inSeq_normal, inSeq_exit, inSeq_ret, inBlk_exit, inBlk_normal, inBlk_ret, OptK_some, OptH_some, OptS_some, kont_app, ar_nil, ar_guard, ar_mv, ar_pick, ar_new, ar_box, ar_build, ar_buildSl, ar_load, ar_store, ar_nilChk, ar_bin, ar_un, ar_conv, ar_convSB, ar_convBS, ar_mkFunc, ar_mkIface, ar_mkSlice, ar_sl, ar_slStr, ar_fieldA, ar_field, ar_idxA, ar_idxArr, ar_idx, ar_idxS, ar_extract, ar_append, ar_len, ar_call, ar_callv, callvP_func, List.nil_append, List.cons_append, List.append_nil, ar_pf, ar_hf, ar_slA, upO_some, upO_none, sX_t, sX_c, sX_f, sXs, sXO, sXP, fin_t, fin_t2, fin_t3, up_same, up_ne, ne_eq, not_false_eq_true, AVal.bool.injEq, decide_eq_true_eq, decide_eq_false_iff_not, Int.ofNat_eq_natCast, Int.reduceNegSucc, Int.cast_ofNat_Int, reduceCtorEq, bin_lss, bin_leq, bin_gtr, bin_geq, bin_eql, bin_neq, bin_add, bin_sub, bin_mul, Bool.not_eq_true', Bool.not_eq_false', Bool.true_eq_false, Bool.false_eq_true, Nat.reduceEqDiff, ↓reduceIte, if_true, if_false, Nat.reduceAdd, Int.reduceEq, Int.reduceLT, Int.reduceLE, hneg, w1, un_neg, w2, m1, build1 _ _ (x := .int .u8 45) rfl, m2]
    refine t _ ?_ ?_ <;> simp only [pf_min, undef_bool, str_len, str_eql, str_neq, conv_in, un_not, eq_self, decide_true, decide_false, Bool.not_true, Bool.not_false, argE_0, argE_1, argE_2, argE_3, argE_4, aw_skip, aw_reg, aw_seq, aw_cond, aw_block, aw_exit, aw_ret, inSeq_normal, inSeq_exit, inSeq_ret, inBlk_exit, inBlk_normal, inBlk_ret, OptK_some, OptH_some, OptS_some, kont_app, ar_nil, ar_guard, ar_mv, ar_pick, ar_new, ar_box, ar_build, ar_buildSl, ar_load, ar_store, ar_nilChk, ar_bin, ar_un, ar_conv, ar_convSB, ar_convBS, ar_mkFunc, ar_mkIface, ar_mkSlice, ar_sl, ar_slStr, ar_fieldA, ar_field, ar_idxA, ar_idxArr, ar_idx, ar_idxS, ar_extract, ar_append, ar_len, ar_call, ar_callv, callvP_func, List.nil_append, List.cons_append, List.append_nil, ar_pf, ar_hf, ar_slA, upO_some, upO_none, sX_t, sX_c, sX_f, sXs, sXO, sXP, fin_t, fin_t2, fin_t3, up_same, up_ne, ne_eq, not_false_eq_true, AVal.bool.injEq, decide_eq_true_eq, decide_eq_false_iff_not, Int.ofNat_eq_natCast, Int.reduceNegSucc, Int.cast_ofNat_Int, reduceCtorEq, bin_lss, bin_leq, bin_gtr, bin_geq, bin_eql, bin_neq, bin_add, bin_sub, bin_mul, Bool.not_eq_true', Bool.not_eq_false', Bool.true_eq_false, Bool.false_eq_true, Nat.reduceEqDiff, ↓reduceIte, if_true, if_false, Nat.reduceAdd, Int.reduceEq, Int.reduceLT, Int.reduceLE] <;> rfl
  · have w1 : IntKind.u64.wrap n = (n.natAbs : Int) := by rw [IntKind.wrap_u64]; omega
    have hd : numeralF n = [] ++ (asc (decD (n.natAbs / 4294967296)) ++ tailF (n.natAbs % 4294967296)) := by rw [numeralF, if_neg hneg]
    rw [hd]
    have t := fun (T : Env) g3 g4 => tail9 hN (H0 := H) hn G (sg := []) (by simp) (n := n.natAbs) hsz (T := T) (H := H1) (b := H.next) b1 (Nat.le_refl _) (by omega) hE1 g3 g4
    show wp _ (pre9 code9) (fin c9.res _) _ _
    simp only [pre9, c9, pf_min, undef_bool, str_len, str_eql, str_neq, conv_in, un_not, eq_self, decide_true, decide_false, Bool.not_true, Bool.not_false, argE_0, argE_1, argE_2, argE_3, argE_4, aw_skip, aw_reg, aw_seq, aw_cond, aw_block, aw_exit, aw_ret, inSeq_normal, inSeq_exit, inSeq_ret, inBlk_exit, inBlk_normal, inBlk_ret, OptK_some, OptH_some, OptS_some, kont_app, ar_nil, ar_guard, ar_mv, ar_pick, ar_new, ar_box, ar_build, ar_buildSl, ar_load, ar_store, ar_nilChk, ar_bin, ar_un, ar_conv, ar_convSB, ar_convBS, ar_mkFunc, ar_mkIface, ar_mkSlice, ar_sl, ar_slStr, ar_fieldA, ar_field, ar_idxA, ar_idxArr, ar_idx, ar_idxS, ar_extract, ar_append, ar_len, ar_call, ar_callv, callvP_func, List.nil_append, List.cons_append, List.append_nil, ar_pf, ar_hf, ar_slA, upO_some, upO_none, sX_t, sX_c, sX_f, sXs, sXO, sXP, fin_t, fin_t2, fin_t3, up_same, up_ne, ne_eq, not_false_eq_true, AVal.bool.injEq, decide_eq_true_eq, decide_eq_false_iff_not, Int.ofNat_eq_natCast, Int.reduceNegSucc, Int.cast_ofNat_Int, reduceCtorEq, bin_lss, bin_leq, bin_gtr, bin_geq, bin_eql, bin_neq, bin_add, bin_sub, bin_mul, Bool.not_eq_true', Bool.not_eq_false', Bool.true_eq_false, Bool.false_eq_true, Nat.reduceEqDiff, ↓reduceIte, if_true, if_false, Nat.reduceAdd, Int.reduceEq, Int.reduceLT, Int.reduceLE, hneg, w1, m1]
    refine t _ ?_ ?_ <;> simp only [pf_min, undef_bool, str_len, str_eql, str_neq, conv_in, un_not, eq_self, decide_true, decide_false, Bool.not_true, Bool.not_false, argE_0, argE_1, argE_2, argE_3, argE_4, aw_skip, aw_reg, aw_seq, aw_cond, aw_block, aw_exit, aw_ret, inSeq_normal, inSeq_exit, inSeq_ret, inBlk_exit, inBlk_normal, inBlk_ret, OptK_some, OptH_some, OptS_some, kont_app, ar_nil, ar_guard, ar_mv, ar_pick, ar_new, ar_box, ar_build, ar_buildSl, ar_load, ar_store, ar_nilChk, ar_bin, ar_un, ar_conv, ar_convSB, ar_convBS, ar_mkFunc, ar_mkIface, ar_mkSlice, ar_sl, ar_slStr, ar_fieldA, ar_field, ar_idxA, ar_idxArr, ar_idx, ar_idxS, ar_extract, ar_append, ar_len, ar_call, ar_callv, callvP_func, List.nil_append, List.cons_append, List.append_nil, ar_pf, ar_hf, ar_slA, upO_some, upO_none, sX_t, sX_c, sX_f, sXs, sXO, sXP, fin_t, fin_t2, fin_t3, up_same, up_ne, ne_eq, not_false_eq_true, AVal.bool.injEq, decide_eq_true_eq, decide_eq_false_iff_not, Int.ofNat_eq_natCast, Int.reduceNegSucc, Int.cast_ofNat_Int, reduceCtorEq, bin_lss, bin_leq, bin_gtr, bin_geq, bin_eql, bin_neq, bin_add, bin_sub, bin_mul, Bool.not_eq_true', Bool.not_eq_false', Bool.true_eq_false, Bool.false_eq_true, Nat.reduceEqDiff, ↓reduceIte, if_true, if_false, Nat.reduceAdd, Int.reduceEq, Int.reduceLT, Int.reduceLE] <;> rfl
end Go.Proofs.Wo
