/- Part of a proof (W0 W1 W2 W3); no condition. -/
import Derived.Test.YtdodomcjoekpbaaDoorP5
import Derived.Test.YtdodomcjoekpbaaDoorP6
set_option linter.unusedSimpArgs false
set_option linter.unusedVariables false
/- Words, in plain Lean: runs, numerals, what is passed over, signs, keys, lines. -/
namespace Go.Proofs.Wo
abbrev Bs := List UInt8
def dig (b : UInt8) : Bool := decide (48 ≤ b.toNat) && decide (b.toNat ≤ 57)
def beg (b : UInt8) : Bool := ((decide (97 ≤ b.toNat) && decide (b.toNat ≤ 122)) || (decide (65 ≤ b.toNat) && decide (b.toNat ≤ 90))) || decide (b.toNat = 95)
def bgd (b : UInt8) : Bool := beg b || dig b
def blk (b : UInt8) : Bool := ((decide (b.toNat = 9) || decide (b.toNat = 10)) || decide (b.toNat = 13)) || decide (b.toNat = 32)
def nln (b : UInt8) : Bool := !decide (b.toNat = 10)
/-- where the run of bytes ends that are so, from a place on -/
def runF (p : UInt8 → Bool) (s : Bs) (at_ : Nat) : Nat := at_ + ((s.drop at_).takeWhile p).length
theorem drop_some {s : Bs} {i : Nat} {c : UInt8} (h : s[i]? = some c) : s.drop i = c :: s.drop (i + 1) := by
  have hlt := (List.getElem?_eq_some_iff.1 h).1
  rw [List.drop_eq_getElem_cons hlt]
  congr 1
  rw [List.getElem?_eq_getElem hlt] at h
  simpa using h
theorem runF_go {p : UInt8 → Bool} {s : Bs} {i : Nat} {c : UInt8} (h : s[i]? = some c) (hp : p c = true) : runF p s i = runF p s (i + 1) := by
  unfold runF
  rw [drop_some h, List.takeWhile_cons_of_pos hp, List.length_cons]
  omega
theorem runF_no {p : UInt8 → Bool} {s : Bs} {i : Nat} {c : UInt8} (h : s[i]? = some c) (hp : p c = false) : runF p s i = i := by
  unfold runF
  rw [drop_some h, List.takeWhile_cons_of_neg (by simp [hp])]
  simp
theorem runF_end {p : UInt8 → Bool} {s : Bs} {i : Nat} (h : s.length ≤ i) : runF p s i = i := by
  unfold runF
  rw [List.drop_eq_nil_of_le h]
  simp
theorem runF_ge (p : UInt8 → Bool) (s : Bs) (i : Nat) : i ≤ runF p s i := Nat.le_add_right _ _
theorem runF_le {p : UInt8 → Bool} {s : Bs} {i : Nat} (h : i ≤ s.length) : runF p s i ≤ s.length := by
  unfold runF
  have := (List.takeWhile_sublist (p := p) (l := s.drop i)).length_le
  simp only [List.length_drop] at this
  omega
/-- each byte of the run is so -/
theorem runF_in {p : UInt8 → Bool} {s : Bs} {i j : Nat} (h1 : i ≤ j) (h2 : j < runF p s i) : ∃ c, s[j]? = some c ∧ p c = true := by
  unfold runF at h2
  have hj : j - i < ((s.drop i).takeWhile p).length := by omega
  have hm := List.getElem_mem hj
  have hp := List.all_takeWhile (p := p) (l := s.drop i)
  refine ⟨((s.drop i).takeWhile p)[j - i], ?_, List.all_eq_true.1 hp _ hm⟩
  obtain ⟨t, ht⟩ := List.takeWhile_prefix p (l := s.drop i)
  have : (s.drop i)[j - i]? = some ((s.drop i).takeWhile p)[j - i] := by
    conv => lhs; rw [← ht]
    rw [List.getElem?_append_left hj, List.getElem?_eq_getElem hj]
  rw [List.getElem?_drop, show i + (j - i) = j by omega] at this
  exact this
/-- and the byte behind it is not -/
theorem runF_out {p : UInt8 → Bool} {s : Bs} {i : Nat} {c : UInt8} (h : s[runF p s i]? = some c) : p c = false := by
  unfold runF at h
  rw [← List.getElem?_drop] at h
  generalize s.drop i = l at h
  induction l with
  | nil => simp at h
  | cons a l ih =>
    cases ha : p a with
    | true =>
      rw [List.takeWhile_cons_of_pos ha] at h
      simp only [List.length_cons, List.getElem?_cons_succ] at h
      exact ih h
    | false =>
      rw [List.takeWhile_cons_of_neg (by simp [ha])] at h
      simp only [List.length_nil, List.getElem?_cons_zero, Option.some.injEq] at h
      rw [← h]; exact ha
def numF (s : Bs) (i : Nat) : Nat :=
  if runF dig s i = i ∨ s[runF dig s i]? ≠ some 46 then runF dig s i
  else if runF dig s i + 1 < runF dig s (runF dig s i + 1) then runF dig s (runF dig s i + 1) else runF dig s i
theorem numF_ge (s : Bs) (i : Nat) : i ≤ numF s i := by
  unfold numF
  have h1 := runF_ge dig s i
  have h2 := runF_ge dig s (runF dig s i + 1)
  split
  · exact h1
  · split <;> omega
theorem numF_le {s : Bs} {i : Nat} (h : i ≤ s.length) : numF s i ≤ s.length := by
  unfold numF
  have h1 := runF_le (p := dig) h
  split
  · exact h1
  · rename_i hn
    have hs : s[runF dig s i]? = some 46 := by
      by_cases c : s[runF dig s i]? = some 46
      · exact c
      · exact absurd (.inr c) hn
    have hlt := (List.getElem?_eq_some_iff.1 hs).1
    split
    · exact runF_le (by omega)
    · exact h1
/-! what is passed over -/
mutual
/-- what stays behind blanks and remarks -/
def bl : Bs → Bs
  | [] => []
  | c :: r => if blk c then bl r else if c.toNat = 35 then rm r else c :: r
/-- the same, in a remark -/
def rm : Bs → Bs
  | [] => []
  | c :: r => if c.toNat = 10 then bl r else rm r
end
def skipF (s : Bs) (i : Nat) : Nat := s.length - (bl (s.drop i)).length
mutual
theorem bl_le : ∀ l : Bs, (bl l).length ≤ l.length
  | [] => by simp [bl]
  | c :: r => by
    have h1 := bl_le r
    have h2 := rm_le r
    simp only [bl]
    split
    · simp; omega
    · split
      · simp; omega
      · simp
theorem rm_le : ∀ l : Bs, (rm l).length ≤ l.length
  | [] => by simp [rm]
  | c :: r => by
    have h1 := bl_le r
    have h2 := rm_le r
    simp only [rm]
    split
    · simp; omega
    · simp; omega
end
theorem skipF_ge {s : Bs} {i : Nat} (h : i ≤ s.length) : i ≤ skipF s i := by
  unfold skipF
  have := bl_le (s.drop i)
  simp only [List.length_drop] at this
  omega
theorem skipF_le (s : Bs) (i : Nat) : skipF s i ≤ s.length := by unfold skipF; omega
theorem skip_blank {s : Bs} {i : Nat} {c : UInt8} (h : s[i]? = some c) (hb : blk c = true) : skipF s i = skipF s (i + 1) := by
  unfold skipF
  rw [drop_some h, bl, if_pos hb]
theorem skip_stop {s : Bs} {i : Nat} {c : UInt8} (h : s[i]? = some c) (hb : blk c = false) (hc : c.toNat ≠ 35) : skipF s i = i := by
  have hlt := (List.getElem?_eq_some_iff.1 h).1
  unfold skipF
  rw [drop_some h, bl, if_neg (by simp [hb]), if_neg hc, ← drop_some h, List.length_drop]
  omega
theorem skip_end {s : Bs} {i : Nat} (h : s.length = i) : skipF s i = i := by
  unfold skipF
  rw [List.drop_eq_nil_of_le (by omega), bl]
  simp; omega
/-- behind a run of blanks -/
theorem skip_run (s : Bs) (i : Nat) : skipF s (runF blk s i) = skipF s i := by
  have key : ∀ l : Bs, bl (l.drop (l.takeWhile blk).length) = bl l := by
    intro l
    induction l with
    | nil => simp
    | cons a l ih =>
      cases ha : blk a with
      | true => rw [List.takeWhile_cons_of_pos ha, List.length_cons, List.drop_succ_cons, ih, bl, if_pos ha]
      | false => rw [List.takeWhile_cons_of_neg (by simp [ha])]; simp
  unfold skipF runF
  rw [← List.drop_drop, key]
/-- behind a remark -/
theorem rm_run : ∀ l : Bs, rm l = bl (l.drop (l.takeWhile nln).length)
  | [] => by simp [rm, bl]
  | c :: r => by
    by_cases h : c.toNat = 10
    · have hn : nln c = false := by simp [nln, h]
      have hb : blk c = true := by simp [blk, h]
      rw [rm, if_pos h, List.takeWhile_cons_of_neg (by simp [hn]), List.length_nil, List.drop_zero, bl, if_pos hb]
    · have hn : nln c = true := by simp [nln, h]
      rw [rm, if_neg h, List.takeWhile_cons_of_pos hn, List.length_cons, List.drop_succ_cons, rm_run r]
theorem skip_remark {s : Bs} {i : Nat} {c : UInt8} (h : s[i]? = some c) (hc : c.toNat = 35) : skipF s i = skipF s (runF nln s i) := by
  have hb : blk c = false := by simp [blk, hc]
  have hn : nln c = true := by simp [nln, hc]
  rw [runF_go h hn]
  unfold skipF runF
  rw [drop_some h, bl, if_neg (by simp [hb]), if_pos hc, rm_run, List.drop_drop]
/-! lines -/
def lineF (s : Bs) (i : Nat) : Nat := 1 + (s.take i).count 10
theorem line_succ {s : Bs} {i : Nat} {c : UInt8} (h : s[i]? = some c) : lineF s (i + 1) = lineF s i + if c.toNat = 10 then 1 else 0 := by
  unfold lineF
  rw [List.take_add_one, h, Option.toList_some, List.count_append, List.count_singleton]
  have e : (c == (10 : UInt8)) = decide (c.toNat = 10) := by
    rw [Bool.eq_iff_iff, beq_iff_eq, decide_eq_true_eq]
    constructor
    · intro h; rw [h]; rfl
    · intro h; exact UInt8.toNat_inj.1 h
  rw [e]
  by_cases hc : c.toNat = 10
  · simp [hc]; omega
  · simp [hc]
/-! numbers -/
def dv (c : UInt8) : Nat := c.toNat - 48
def valF (l : Bs) : Nat := l.foldl (fun n c => n * 10 + dv c) 0
theorem foldl_val (l : Bs) (n : Nat) : l.foldl (fun n c => n * 10 + dv c) n = n * 10 ^ l.length + valF l := by
  induction l generalizing n with
  | nil => simp [valF]
  | cons c l ih =>
    simp only [List.foldl_cons, valF, List.length_cons]
    rw [ih, ih (0 * 10 + dv c)]
    rw [Nat.pow_succ]
    have : (n * 10 + dv c) * 10 ^ l.length = n * (10 ^ l.length * 10) + (0 * 10 + dv c) * 10 ^ l.length := by
      rw [Nat.add_mul, Nat.zero_mul, Nat.zero_add, Nat.mul_assoc, Nat.mul_comm 10]
    omega
theorem val_snoc (l : Bs) (c : UInt8) : valF (l ++ [c]) = valF l * 10 + dv c := by simp [valF]
end Go.Proofs.Wo
/- Words, in plain Lean: what digits behind a point say, bit by bit. -/
namespace Go.Proofs.Wo
def valN (l : List Nat) : Nat := l.foldl (fun n d => n * 10 + d) 0
theorem valN_from (l : List Nat) (n : Nat) : l.foldl (fun n d => n * 10 + d) n = n * 10 ^ l.length + valN l := by
  induction l generalizing n with
  | nil => simp [valN]
  | cons c l ih =>
    simp only [List.foldl_cons, valN, List.length_cons]
    rw [ih, ih (0 * 10 + c), Nat.pow_succ]
    have : (n * 10 + c) * 10 ^ l.length = n * (10 ^ l.length * 10) + (0 * 10 + c) * 10 ^ l.length := by
      rw [Nat.add_mul, Nat.zero_mul, Nat.zero_add, Nat.mul_assoc, Nat.mul_comm 10]
    omega
theorem valN_cons (d : Nat) (l : List Nat) : valN (d :: l) = d * 10 ^ l.length + valN l := by
  have := valN_from l (0 * 10 + d)
  simp only [Nat.zero_mul, Nat.zero_add] at this
  rw [← this]; simp [valN]
theorem valN_lt : ∀ {l : List Nat}, (∀ d ∈ l, d ≤ 9) → valN l < 10 ^ l.length
  | [], _ => by simp [valN]
  | d :: l, h => by
    have h1 := h d (by simp)
    have h2 := valN_lt (l := l) fun x hx => h x (by simp [hx])
    rw [valN_cons, List.length_cons, Nat.pow_succ]
    have : d * 10 ^ l.length ≤ 9 * 10 ^ l.length := Nat.mul_le_mul_right _ h1
    omega
/-- the digits twice, and what goes over -/
def dbl : List Nat → Nat × List Nat
  | [] => (0, [])
  | d :: r => ((d * 2 + (dbl r).1) / 10, (d * 2 + (dbl r).1) % 10 :: (dbl r).2)
theorem dbl_len : ∀ l : List Nat, (dbl l).2.length = l.length
  | [] => rfl
  | d :: r => by simp only [dbl, List.length_cons, dbl_len r]
theorem dbl_over : ∀ {l : List Nat}, (∀ d ∈ l, d ≤ 9) → (dbl l).1 ≤ 1
  | [], _ => by simp [dbl]
  | d :: r, h => by
    have h1 := h d (by simp)
    have h2 := dbl_over (l := r) fun x hx => h x (by simp [hx])
    simp only [dbl]; omega
theorem dbl_dig : ∀ (l : List Nat), ∀ d ∈ (dbl l).2, d ≤ 9
  | [], d, h => by simp [dbl] at h
  | a :: r, d, h => by
    simp only [dbl, List.mem_cons] at h
    rcases h with rfl | h
    · omega
    · exact dbl_dig r d h
theorem dbl_val : ∀ (l : List Nat), (dbl l).1 * 10 ^ l.length + valN (dbl l).2 = 2 * valN l
  | [] => by simp [dbl, valN]
  | d :: r => by
    have ih := dbl_val r
    simp only [dbl, valN_cons, dbl_len, List.length_cons, Nat.pow_succ]
    generalize (dbl r).1 = o at *
    generalize valN (dbl r).2 = v at *
    generalize valN r = u at *
    generalize 10 ^ r.length = p at *
    have h1 := Nat.div_add_mod (d * 2 + o) 10
    have e1 : (d * 2 + o) / 10 * (p * 10) = 10 * ((d * 2 + o) / 10) * p := by rw [Nat.mul_comm p, ← Nat.mul_assoc, Nat.mul_comm _ 10]
    have e2 : (10 * ((d * 2 + o) / 10) + (d * 2 + o) % 10) * p = (d * 2 + o) * p := by rw [h1]
    have e3 : (d * 2 + o) * p = 2 * (d * p) + o * p := by rw [Nat.add_mul, Nat.mul_comm d 2, Nat.mul_assoc]
    rw [Nat.add_mul] at e2
    rw [e1]
    omega
/-- so many times: the bits that went over, behind those of n -/
def bits (l : List Nat) (n : Nat) : Nat → Nat × List Nat
  | 0 => (n, l)
  | k + 1 => (2 * (bits l n k).1 + (dbl (bits l n k).2).1, (dbl (bits l n k).2).2)
theorem bits_len (l : List Nat) (n : Nat) : ∀ k, (bits l n k).2.length = l.length
  | 0 => rfl
  | k + 1 => by simp only [bits, dbl_len, bits_len l n k]
theorem bits_dig {l : List Nat} (h : ∀ d ∈ l, d ≤ 9) (n : Nat) : ∀ k, ∀ d ∈ (bits l n k).2, d ≤ 9
  | 0 => h
  | k + 1 => by simp only [bits]; exact dbl_dig _
theorem bits_val (l : List Nat) (n : Nat) : ∀ k, (bits l n k).1 * 10 ^ l.length + valN (bits l n k).2 = 2 ^ k * (n * 10 ^ l.length + valN l)
  | 0 => by simp [bits]
  | k + 1 => by
    have ih := bits_val l n k
    have h2 := dbl_val (bits l n k).2
    rw [bits_len] at h2
    simp only [bits, Nat.pow_succ]
    rw [Nat.add_mul, Nat.mul_assoc, Nat.mul_right_comm (2 ^ k), ← ih]
    omega
theorem bits_end {l : List Nat} (h : ∀ d ∈ l, d ≤ 9) (n k : Nat) : (bits l n k).1 = 2 ^ k * (n * 10 ^ l.length + valN l) / 10 ^ l.length := by
  have h1 := bits_val l n k
  have h2 := valN_lt (bits_dig h n k)
  rw [bits_len] at h2
  rw [← h1]
  have hp : 0 < 10 ^ l.length := Nat.pos_of_ne_zero (by simp)
  rw [Nat.mul_comm, Nat.mul_add_div hp, Nat.div_eq_of_lt h2, Nat.add_zero]
/-- behind a point -/
def frac (l : List Nat) : Nat := 2 ^ 32 * valN l / 10 ^ l.length
theorem bits_frac {l : List Nat} (h : ∀ d ∈ l, d ≤ 9) (n : Nat) : (bits l n 32).1 = 2 ^ 32 * n + frac l := by
  rw [bits_end h, frac, Nat.mul_add]
  have hp : 0 < 10 ^ l.length := Nat.pos_of_ne_zero (by simp)
  rw [← Nat.mul_assoc, Nat.mul_comm (2 ^ 32 * n), Nat.mul_add_div hp]
theorem frac_lt {l : List Nat} (h : ∀ d ∈ l, d ≤ 9) : frac l < 2 ^ 32 := by
  have := valN_lt h
  unfold frac
  have hp : 0 < 10 ^ l.length := Nat.pos_of_ne_zero (by simp)
  exact (Nat.div_lt_iff_lt_mul hp).2 (Nat.mul_lt_mul_of_pos_left this (by decide))
theorem valN_append (a b : List Nat) : valN (a ++ b) = valN a * 10 ^ b.length + valN b := by
  have := valN_from b (valN a)
  rw [← this]; simp [valN]
theorem valN_zeros : ∀ k, valN (List.replicate k 0) = 0
  | 0 => rfl
  | k + 1 => by rw [List.replicate_succ, valN_cons, valN_zeros k]; simp
/-- noughts behind the digits say nothing -/
theorem frac_pad (l : List Nat) (k : Nat) : frac (l ++ List.replicate k 0) = frac l := by
  unfold frac
  rw [valN_append, valN_zeros, List.length_append, List.length_replicate, Nat.add_zero, Nat.pow_add, ← Nat.mul_assoc]
  exact Nat.mul_div_mul_right _ _ (Nat.pos_of_ne_zero (by simp))
/-- digits behind the first 32 say nothing -/
theorem frac_take {l : List Nat} (h : ∀ d ∈ l, d ≤ 9) (hl : 32 ≤ l.length) : frac (l.take 32) = frac l := by
  have ht : (l.take 32).length = 32 := by simp; omega
  have hd : (l.drop 32).length = l.length - 32 := by simp
  have e : valN l = valN (l.take 32) * 10 ^ (l.length - 32) + valN (l.drop 32) := by
    rw [← hd, ← valN_append, List.take_append_drop]
  have hlt := valN_lt (l := l.drop 32) fun d hd => h d (List.mem_of_mem_drop hd)
  rw [hd] at hlt
  have e2 : (10 : Nat) ^ l.length = 10 ^ (l.length - 32) * 10 ^ 32 := by rw [← Nat.pow_add]; congr 1; omega
  unfold frac
  rw [ht, e, e2]
  generalize valN (l.take 32) = A
  generalize valN (l.drop 32) = B at *
  generalize hp : (10 : Nat) ^ (l.length - 32) = p at *
  have hpp : 0 < p := by rw [← hp]; exact Nat.pos_of_ne_zero (by simp)
  rw [← Nat.div_div_eq_div_mul, Nat.mul_add, ← Nat.mul_assoc, Nat.mul_comm (2 ^ 32 * A) p, Nat.mul_add_div hpp]
  have hc : 2 ^ 32 * B / p < 2 ^ 32 := (Nat.div_lt_iff_lt_mul hpp).2 (Nat.mul_lt_mul_of_pos_left hlt (by decide))
  generalize 2 ^ 32 * B / p = c at hc
  have e3 : (10 : Nat) ^ 32 = 2 ^ 32 * 5 ^ 32 := by decide
  rw [e3, ← Nat.div_div_eq_div_mul, ← Nat.div_div_eq_div_mul, Nat.mul_add_div (by decide), Nat.div_eq_of_lt hc, Nat.add_zero, Nat.mul_div_cancel_left _ (by decide)]
end Go.Proofs.Wo
/- Words: runs of bytes, what is passed over, numerals: the contracts. -/
namespace Go.Proofs.Wo
open Go.Abs Go.Abs.S
set_option linter.unusedSimpArgs false
variable {N : ANat}
/-- a byte, as the machine has it -/
abbrev by8 (c : UInt8) : AVal := .int .u8 (c.toNat : Int)
def Says (N : ANat) (g : Nat) (p : UInt8 → Bool) : Prop := ∀ (c : UInt8) (H : AHeap), ACalls Tryd.prog N g [by8 c] H fun v H' => v = .bool (p c) ∧ H = H'
theorem digit_spec (hN : N.is 22 = false) : Says N 22 dig := by
  intro c H
  refine acalls_ofN hN za22 rfl ?_
  by_cases h1 : (48 : Int) ≤ (c.toNat : Int)
  · by_cases h2 : (c.toNat : Int) ≤ 57
    · simp only [c22, pf_min, undef_bool, str_len, str_eql, str_neq, conv_in, un_not, eq_self, decide_true, decide_false, Bool.not_true, Bool.not_false, argE_0, argE_1, argE_2, argE_3, argE_4, aw_skip, aw_reg, aw_seq, aw_cond, aw_block, aw_exit, aw_ret, inSeq_normal, inSeq_exit, inSeq_ret, inBlk_exit, inBlk_normal, inBlk_ret, OptK_some, OptH_some, OptS_some, kont_app, ar_nil, ar_guard, ar_mv, ar_pick, ar_new, ar_box, ar_build, ar_buildSl, ar_load, ar_store, ar_nilChk, ar_bin, ar_un, ar_conv, ar_convSB, ar_convBS, ar_mkFunc, ar_mkIface, ar_mkSlice, ar_sl, ar_slStr, ar_fieldA, ar_field, ar_idxA, ar_idxArr, ar_idx, ar_idxS, ar_extract, ar_append, ar_len, ar_call, ar_callv, callvP_func, List.nil_append, List.cons_append, List.append_nil, ar_pf, ar_hf, ar_slA, upO_some, upO_none, sX_t, sX_c, sX_f, sXs, sXO, sXP, fin_t, fin_t2, fin_t3, up_same, up_ne, ne_eq, not_false_eq_true, AVal.bool.injEq, decide_eq_true_eq, decide_eq_false_iff_not, Int.ofNat_eq_natCast, Int.reduceNegSucc, Int.cast_ofNat_Int, reduceCtorEq, bin_lss, bin_leq, bin_gtr, bin_geq, bin_eql, bin_neq, bin_add, bin_sub, bin_mul, Bool.not_eq_true', Bool.not_eq_false', Bool.true_eq_false, Bool.false_eq_true, Nat.reduceEqDiff, ↓reduceIte, if_true, if_false, Nat.reduceAdd, Int.reduceEq, Int.reduceLT, Int.reduceLE, h1, h2]
      exact ⟨by simp [dig]; omega, by trivial⟩
    · simp only [c22, pf_min, undef_bool, str_len, str_eql, str_neq, conv_in, un_not, eq_self, decide_true, decide_false, Bool.not_true, Bool.not_false, argE_0, argE_1, argE_2, argE_3, argE_4, aw_skip, aw_reg, aw_seq, aw_cond, aw_block, aw_exit, aw_ret, inSeq_normal, inSeq_exit, inSeq_ret, inBlk_exit, inBlk_normal, inBlk_ret, OptK_some, OptH_some, OptS_some, kont_app, ar_nil, ar_guard, ar_mv, ar_pick, ar_new, ar_box, ar_build, ar_buildSl, ar_load, ar_store, ar_nilChk, ar_bin, ar_un, ar_conv, ar_convSB, ar_convBS, ar_mkFunc, ar_mkIface, ar_mkSlice, ar_sl, ar_slStr, ar_fieldA, ar_field, ar_idxA, ar_idxArr, ar_idx, ar_idxS, ar_extract, ar_append, ar_len, ar_call, ar_callv, callvP_func, List.nil_append, List.cons_append, List.append_nil, ar_pf, ar_hf, ar_slA, upO_some, upO_none, sX_t, sX_c, sX_f, sXs, sXO, sXP, fin_t, fin_t2, fin_t3, up_same, up_ne, ne_eq, not_false_eq_true, AVal.bool.injEq, decide_eq_true_eq, decide_eq_false_iff_not, Int.ofNat_eq_natCast, Int.reduceNegSucc, Int.cast_ofNat_Int, reduceCtorEq, bin_lss, bin_leq, bin_gtr, bin_geq, bin_eql, bin_neq, bin_add, bin_sub, bin_mul, Bool.not_eq_true', Bool.not_eq_false', Bool.true_eq_false, Bool.false_eq_true, Nat.reduceEqDiff, ↓reduceIte, if_true, if_false, Nat.reduceAdd, Int.reduceEq, Int.reduceLT, Int.reduceLE, h1, h2]
      exact ⟨by simp [dig]; omega, by trivial⟩
  · simp only [c22, pf_min, undef_bool, str_len, str_eql, str_neq, conv_in, un_not, eq_self, decide_true, decide_false, Bool.not_true, Bool.not_false, argE_0, argE_1, argE_2, argE_3, argE_4, aw_skip, aw_reg, aw_seq, aw_cond, aw_block, aw_exit, aw_ret, inSeq_normal, inSeq_exit, inSeq_ret, inBlk_exit, inBlk_normal, inBlk_ret, OptK_some, OptH_some, OptS_some, kont_app, ar_nil, ar_guard, ar_mv, ar_pick, ar_new, ar_box, ar_build, ar_buildSl, ar_load, ar_store, ar_nilChk, ar_bin, ar_un, ar_conv, ar_convSB, ar_convBS, ar_mkFunc, ar_mkIface, ar_mkSlice, ar_sl, ar_slStr, ar_fieldA, ar_field, ar_idxA, ar_idxArr, ar_idx, ar_idxS, ar_extract, ar_append, ar_len, ar_call, ar_callv, callvP_func, List.nil_append, List.cons_append, List.append_nil, ar_pf, ar_hf, ar_slA, upO_some, upO_none, sX_t, sX_c, sX_f, sXs, sXO, sXP, fin_t, fin_t2, fin_t3, up_same, up_ne, ne_eq, not_false_eq_true, AVal.bool.injEq, decide_eq_true_eq, decide_eq_false_iff_not, Int.ofNat_eq_natCast, Int.reduceNegSucc, Int.cast_ofNat_Int, reduceCtorEq, bin_lss, bin_leq, bin_gtr, bin_geq, bin_eql, bin_neq, bin_add, bin_sub, bin_mul, Bool.not_eq_true', Bool.not_eq_false', Bool.true_eq_false, Bool.false_eq_true, Nat.reduceEqDiff, ↓reduceIte, if_true, if_false, Nat.reduceAdd, Int.reduceEq, Int.reduceLT, Int.reduceLE, h1]
    exact ⟨by simp [dig]; omega, by trivial⟩
theorem begins_spec (hN : N.is 24 = false) : Says N 24 beg := by
  intro c H
  refine acalls_ofN hN za24 rfl ?_
  have e : beg c = (((decide ((97 : Int) ≤ c.toNat) && decide ((c.toNat : Int) ≤ 122)) || (decide ((65 : Int) ≤ c.toNat) && decide ((c.toNat : Int) ≤ 90))) || decide ((c.toNat : Int) = 95)) := by
    rw [Bool.eq_iff_iff]; simp [beg]; omega
  rw [e]
  by_cases h1 : (97 : Int) ≤ (c.toNat : Int) <;> by_cases h2 : (c.toNat : Int) ≤ 122 <;> by_cases h3 : (65 : Int) ≤ (c.toNat : Int) <;> by_cases h4 : (c.toNat : Int) ≤ 90 <;> by_cases h5 : (c.toNat : Int) = 95
  all_goals first
    | (exfalso; omega)
    | (simp only [c24, pf_min, undef_bool, str_len, str_eql, str_neq, conv_in, un_not, eq_self, decide_true, decide_false, Bool.not_true, Bool.not_false, argE_0, argE_1, argE_2, argE_3, argE_4, aw_skip, aw_reg, aw_seq, aw_cond, aw_block, aw_exit, aw_ret, inSeq_normal, inSeq_exit, inSeq_ret, inBlk_exit, inBlk_normal, inBlk_ret, OptK_some, OptH_some, OptS_some, kont_app, ar_nil, ar_guard, ar_mv, ar_pick, ar_new, ar_box, ar_build, ar_buildSl, ar_load, ar_store, ar_nilChk, ar_bin, ar_un, ar_conv, ar_convSB, ar_convBS, ar_mkFunc, ar_mkIface, ar_mkSlice, ar_sl, ar_slStr, ar_fieldA, ar_field, ar_idxA, ar_idxArr, ar_idx, ar_idxS, ar_extract, ar_append, ar_len, ar_call, ar_callv, callvP_func, List.nil_append, List.cons_append, List.append_nil, ar_pf, ar_hf, ar_slA, upO_some, upO_none, sX_t, sX_c, sX_f, sXs, sXO, sXP, fin_t, fin_t2, fin_t3, up_same, up_ne, ne_eq, not_false_eq_true, AVal.bool.injEq, decide_eq_true_eq, decide_eq_false_iff_not, Int.ofNat_eq_natCast, Int.reduceNegSucc, Int.cast_ofNat_Int, reduceCtorEq, bin_lss, bin_leq, bin_gtr, bin_geq, bin_eql, bin_neq, bin_add, bin_sub, bin_mul, Bool.not_eq_true', Bool.not_eq_false', Bool.true_eq_false, Bool.false_eq_true, Nat.reduceEqDiff, ↓reduceIte, if_true, if_false, Nat.reduceAdd, Int.reduceEq, Int.reduceLT, Int.reduceLE, h1, h2, h3, h4, h5]
       exact ⟨by simp, by trivial⟩)
theorem blank_spec (hN : N.is 45 = false) : Says N 45 blk := by
  intro c H
  refine acalls_ofN hN za45 rfl ?_
  have e : blk c = (((decide ((c.toNat : Int) = 9) || decide ((c.toNat : Int) = 10)) || decide ((c.toNat : Int) = 13)) || decide ((c.toNat : Int) = 32)) := by
    rw [Bool.eq_iff_iff]; simp [blk]; omega
  rw [e]
  by_cases h1 : (c.toNat : Int) = 9 <;> by_cases h2 : (c.toNat : Int) = 10 <;> by_cases h3 : (c.toNat : Int) = 13 <;> by_cases h4 : (c.toNat : Int) = 32
  all_goals first
    | (exfalso; omega)
    | (simp only [c45, pf_min, undef_bool, str_len, str_eql, str_neq, conv_in, un_not, eq_self, decide_true, decide_false, Bool.not_true, Bool.not_false, argE_0, argE_1, argE_2, argE_3, argE_4, aw_skip, aw_reg, aw_seq, aw_cond, aw_block, aw_exit, aw_ret, inSeq_normal, inSeq_exit, inSeq_ret, inBlk_exit, inBlk_normal, inBlk_ret, OptK_some, OptH_some, OptS_some, kont_app, ar_nil, ar_guard, ar_mv, ar_pick, ar_new, ar_box, ar_build, ar_buildSl, ar_load, ar_store, ar_nilChk, ar_bin, ar_un, ar_conv, ar_convSB, ar_convBS, ar_mkFunc, ar_mkIface, ar_mkSlice, ar_sl, ar_slStr, ar_fieldA, ar_field, ar_idxA, ar_idxArr, ar_idx, ar_idxS, ar_extract, ar_append, ar_len, ar_call, ar_callv, callvP_func, List.nil_append, List.cons_append, List.append_nil, ar_pf, ar_hf, ar_slA, upO_some, upO_none, sX_t, sX_c, sX_f, sXs, sXO, sXP, fin_t, fin_t2, fin_t3, up_same, up_ne, ne_eq, not_false_eq_true, AVal.bool.injEq, decide_eq_true_eq, decide_eq_false_iff_not, Int.ofNat_eq_natCast, Int.reduceNegSucc, Int.cast_ofNat_Int, reduceCtorEq, bin_lss, bin_leq, bin_gtr, bin_geq, bin_eql, bin_neq, bin_add, bin_sub, bin_mul, Bool.not_eq_true', Bool.not_eq_false', Bool.true_eq_false, Bool.false_eq_true, Nat.reduceEqDiff, ↓reduceIte, if_true, if_false, Nat.reduceAdd, Int.reduceEq, Int.reduceLT, Int.reduceLE, h1, h2, h3, h4]
       exact ⟨by simp, by trivial⟩)
theorem nline_spec (hN : N.is 46 = false) : Says N 46 nln := by
  intro c H
  refine acalls_ofN hN za46 rfl ?_
  have e : nln c = !decide ((c.toNat : Int) = 10) := by
    rw [Bool.eq_iff_iff]; simp [nln]; omega
  rw [e]
  by_cases h1 : (c.toNat : Int) = 10
  all_goals
    simp only [c46, pf_min, undef_bool, str_len, str_eql, str_neq, conv_in, un_not, eq_self, decide_true, decide_false, Bool.not_true, Bool.not_false, argE_0, argE_1, argE_2, argE_3, argE_4, aw_skip, aw_reg, aw_seq, aw_cond, aw_block, aw_exit, aw_ret, inSeq_normal, inSeq_exit, inSeq_ret, inBlk_exit, inBlk_normal, inBlk_ret, OptK_some, OptH_some, OptS_some, kont_app, ar_nil, ar_guard, ar_mv, ar_pick, ar_new, ar_box, ar_build, ar_buildSl, ar_load, ar_store, ar_nilChk, ar_bin, ar_un, ar_conv, ar_convSB, ar_convBS, ar_mkFunc, ar_mkIface, ar_mkSlice, ar_sl, ar_slStr, ar_fieldA, ar_field, ar_idxA, ar_idxArr, ar_idx, ar_idxS, ar_extract, ar_append, ar_len, ar_call, ar_callv, callvP_func, List.nil_append, List.cons_append, List.append_nil, ar_pf, ar_hf, ar_slA, upO_some, upO_none, sX_t, sX_c, sX_f, sXs, sXO, sXP, fin_t, fin_t2, fin_t3, up_same, up_ne, ne_eq, not_false_eq_true, AVal.bool.injEq, decide_eq_true_eq, decide_eq_false_iff_not, Int.ofNat_eq_natCast, Int.reduceNegSucc, Int.cast_ofNat_Int, reduceCtorEq, bin_lss, bin_leq, bin_gtr, bin_geq, bin_eql, bin_neq, bin_add, bin_sub, bin_mul, Bool.not_eq_true', Bool.not_eq_false', Bool.true_eq_false, Bool.false_eq_true, Nat.reduceEqDiff, ↓reduceIte, if_true, if_false, Nat.reduceAdd, Int.reduceEq, Int.reduceLT, Int.reduceLE, h1]
    exact ⟨by trivial, by trivial⟩
theorem namy_spec (hN : N.is 26 = false) (h24 : N.is 24 = false) (h22 : N.is 22 = false) : Says N 26 bgd := by
  intro c H
  refine acalls_ofN hN za26 rfl ?_
  simp only [c26, pf_min, undef_bool, str_len, str_eql, str_neq, conv_in, un_not, eq_self, decide_true, decide_false, Bool.not_true, Bool.not_false, argE_0, argE_1, argE_2, argE_3, argE_4, aw_skip, aw_reg, aw_seq, aw_cond, aw_block, aw_exit, aw_ret, inSeq_normal, inSeq_exit, inSeq_ret, inBlk_exit, inBlk_normal, inBlk_ret, OptK_some, OptH_some, OptS_some, kont_app, ar_nil, ar_guard, ar_mv, ar_pick, ar_new, ar_box, ar_build, ar_buildSl, ar_load, ar_store, ar_nilChk, ar_bin, ar_un, ar_conv, ar_convSB, ar_convBS, ar_mkFunc, ar_mkIface, ar_mkSlice, ar_sl, ar_slStr, ar_fieldA, ar_field, ar_idxA, ar_idxArr, ar_idx, ar_idxS, ar_extract, ar_append, ar_len, ar_call, ar_callv, callvP_func, List.nil_append, List.cons_append, List.append_nil, ar_pf, ar_hf, ar_slA, upO_some, upO_none, sX_t, sX_c, sX_f, sXs, sXO, sXP, fin_t, fin_t2, fin_t3, up_same, up_ne, ne_eq, not_false_eq_true, AVal.bool.injEq, decide_eq_true_eq, decide_eq_false_iff_not, Int.ofNat_eq_natCast, Int.reduceNegSucc, Int.cast_ofNat_Int, reduceCtorEq, bin_lss, bin_leq, bin_gtr, bin_geq, bin_eql, bin_neq, bin_add, bin_sub, bin_mul, Bool.not_eq_true', Bool.not_eq_false', Bool.true_eq_false, Bool.false_eq_true, Nat.reduceEqDiff, ↓reduceIte, if_true, if_false, Nat.reduceAdd, Int.reduceEq, Int.reduceLT, Int.reduceLE]
  refine (begins_spec h24 c H).mono ?_
  rintro v _ ⟨rfl, rfl⟩
  cases hb : beg c with
  | true =>
    simp only [pf_min, undef_bool, str_len, str_eql, str_neq, conv_in, un_not, eq_self, decide_true, decide_false, Bool.not_true, Bool.not_false, argE_0, argE_1, argE_2, argE_3, argE_4, aw_skip, aw_reg, aw_seq, aw_cond, aw_block, aw_exit, aw_ret, inSeq_normal, inSeq_exit, inSeq_ret, inBlk_exit, inBlk_normal, inBlk_ret, OptK_some, OptH_some, OptS_some, kont_app, ar_nil, ar_guard, ar_mv, ar_pick, ar_new, ar_box, ar_build, ar_buildSl, ar_load, ar_store, ar_nilChk, ar_bin, ar_un, ar_conv, ar_convSB, ar_convBS, ar_mkFunc, ar_mkIface, ar_mkSlice, ar_sl, ar_slStr, ar_fieldA, ar_field, ar_idxA, ar_idxArr, ar_idx, ar_idxS, ar_extract, ar_append, ar_len, ar_call, ar_callv, callvP_func, List.nil_append, List.cons_append, List.append_nil, ar_pf, ar_hf, ar_slA, upO_some, upO_none, sX_t, sX_c, sX_f, sXs, sXO, sXP, fin_t, fin_t2, fin_t3, up_same, up_ne, ne_eq, not_false_eq_true, AVal.bool.injEq, decide_eq_true_eq, decide_eq_false_iff_not, Int.ofNat_eq_natCast, Int.reduceNegSucc, Int.cast_ofNat_Int, reduceCtorEq, bin_lss, bin_leq, bin_gtr, bin_geq, bin_eql, bin_neq, bin_add, bin_sub, bin_mul, Bool.not_eq_true', Bool.not_eq_false', Bool.true_eq_false, Bool.false_eq_true, Nat.reduceEqDiff, ↓reduceIte, if_true, if_false, Nat.reduceAdd, Int.reduceEq, Int.reduceLT, Int.reduceLE]
    exact ⟨by simp [bgd, hb], by trivial⟩
  | false =>
    simp only [pf_min, undef_bool, str_len, str_eql, str_neq, conv_in, un_not, eq_self, decide_true, decide_false, Bool.not_true, Bool.not_false, argE_0, argE_1, argE_2, argE_3, argE_4, aw_skip, aw_reg, aw_seq, aw_cond, aw_block, aw_exit, aw_ret, inSeq_normal, inSeq_exit, inSeq_ret, inBlk_exit, inBlk_normal, inBlk_ret, OptK_some, OptH_some, OptS_some, kont_app, ar_nil, ar_guard, ar_mv, ar_pick, ar_new, ar_box, ar_build, ar_buildSl, ar_load, ar_store, ar_nilChk, ar_bin, ar_un, ar_conv, ar_convSB, ar_convBS, ar_mkFunc, ar_mkIface, ar_mkSlice, ar_sl, ar_slStr, ar_fieldA, ar_field, ar_idxA, ar_idxArr, ar_idx, ar_idxS, ar_extract, ar_append, ar_len, ar_call, ar_callv, callvP_func, List.nil_append, List.cons_append, List.append_nil, ar_pf, ar_hf, ar_slA, upO_some, upO_none, sX_t, sX_c, sX_f, sXs, sXO, sXP, fin_t, fin_t2, fin_t3, up_same, up_ne, ne_eq, not_false_eq_true, AVal.bool.injEq, decide_eq_true_eq, decide_eq_false_iff_not, Int.ofNat_eq_natCast, Int.reduceNegSucc, Int.cast_ofNat_Int, reduceCtorEq, bin_lss, bin_leq, bin_gtr, bin_geq, bin_eql, bin_neq, bin_add, bin_sub, bin_mul, Bool.not_eq_true', Bool.not_eq_false', Bool.true_eq_false, Bool.false_eq_true, Nat.reduceEqDiff, ↓reduceIte, if_true, if_false, Nat.reduceAdd, Int.reduceEq, Int.reduceLT, Int.reduceLE]
    refine (digit_spec h22 c H).mono ?_
    rintro v _ ⟨rfl, rfl⟩
    cases hd : dig c with
    | true => simp only [pf_min, undef_bool, str_len, str_eql, str_neq, conv_in, un_not, eq_self, decide_true, decide_false, Bool.not_true, Bool.not_false, argE_0, argE_1, argE_2, argE_3, argE_4, aw_skip, aw_reg, aw_seq, aw_cond, aw_block, aw_exit, aw_ret, inSeq_normal, inSeq_exit, inSeq_ret, inBlk_exit, inBlk_normal, inBlk_ret, OptK_some, OptH_some, OptS_some, kont_app, ar_nil, ar_guard, ar_mv, ar_pick, ar_new, ar_box, ar_build, ar_buildSl, ar_load, ar_store, ar_nilChk, ar_bin, ar_un, ar_conv, ar_convSB, ar_convBS, ar_mkFunc, ar_mkIface, ar_mkSlice, ar_sl, ar_slStr, ar_fieldA, ar_field, ar_idxA, ar_idxArr, ar_idx, ar_idxS, ar_extract, ar_append, ar_len, ar_call, ar_callv, callvP_func, List.nil_append, List.cons_append, List.append_nil, ar_pf, ar_hf, ar_slA, upO_some, upO_none, sX_t, sX_c, sX_f, sXs, sXO, sXP, fin_t, fin_t2, fin_t3, up_same, up_ne, ne_eq, not_false_eq_true, AVal.bool.injEq, decide_eq_true_eq, decide_eq_false_iff_not, Int.ofNat_eq_natCast, Int.reduceNegSucc, Int.cast_ofNat_Int, reduceCtorEq, bin_lss, bin_leq, bin_gtr, bin_geq, bin_eql, bin_neq, bin_add, bin_sub, bin_mul, Bool.not_eq_true', Bool.not_eq_false', Bool.true_eq_false, Bool.false_eq_true, Nat.reduceEqDiff, ↓reduceIte, if_true, if_false, Nat.reduceAdd, Int.reduceEq, Int.reduceLT, Int.reduceLE]; exact ⟨by simp [bgd, hb, hd], by trivial⟩
    | false => simp only [pf_min, undef_bool, str_len, str_eql, str_neq, conv_in, un_not, eq_self, decide_true, decide_false, Bool.not_true, Bool.not_false, argE_0, argE_1, argE_2, argE_3, argE_4, aw_skip, aw_reg, aw_seq, aw_cond, aw_block, aw_exit, aw_ret, inSeq_normal, inSeq_exit, inSeq_ret, inBlk_exit, inBlk_normal, inBlk_ret, OptK_some, OptH_some, OptS_some, kont_app, ar_nil, ar_guard, ar_mv, ar_pick, ar_new, ar_box, ar_build, ar_buildSl, ar_load, ar_store, ar_nilChk, ar_bin, ar_un, ar_conv, ar_convSB, ar_convBS, ar_mkFunc, ar_mkIface, ar_mkSlice, ar_sl, ar_slStr, ar_fieldA, ar_field, ar_idxA, ar_idxArr, ar_idx, ar_idxS, ar_extract, ar_append, ar_len, ar_call, ar_callv, callvP_func, List.nil_append, List.cons_append, List.append_nil, ar_pf, ar_hf, ar_slA, upO_some, upO_none, sX_t, sX_c, sX_f, sXs, sXO, sXP, fin_t, fin_t2, fin_t3, up_same, up_ne, ne_eq, not_false_eq_true, AVal.bool.injEq, decide_eq_true_eq, decide_eq_false_iff_not, Int.ofNat_eq_natCast, Int.reduceNegSucc, Int.cast_ofNat_Int, reduceCtorEq, bin_lss, bin_leq, bin_gtr, bin_geq, bin_eql, bin_neq, bin_add, bin_sub, bin_mul, Bool.not_eq_true', Bool.not_eq_false', Bool.true_eq_false, Bool.false_eq_true, Nat.reduceEqDiff, ↓reduceIte, if_true, if_false, Nat.reduceAdd, Int.reduceEq, Int.reduceLT, Int.reduceLE]; exact ⟨by simp [bgd, hb, hd], by trivial⟩
/-- the run of bytes -/
theorem run_spec (hN : N.is 25 = false) {g : Nat} {p : UInt8 → Bool} (hp : Says N g p) {H : AHeap} {s : Bs} {i : Nat} (hi : i ≤ s.length) (hs : s.length ≤ 4611686018427387904) :
    ACalls Tryd.prog N 25 [.str s, .int .i64 (i : Int), .func (.func g) [] []] H fun v H' => v = .int .i64 (runF p s i : Int) ∧ H = H' := by
  refine acalls_ofN hN za25 rfl ?_
  simp only [c25, pf_min, undef_bool, str_len, str_eql, str_neq, conv_in, un_not, eq_self, decide_true, decide_false, Bool.not_true, Bool.not_false, argE_0, argE_1, argE_2, argE_3, argE_4, aw_skip, aw_reg, aw_seq, aw_cond, aw_block, aw_exit, aw_ret, inSeq_normal, inSeq_exit, inSeq_ret, inBlk_exit, inBlk_normal, inBlk_ret, OptK_some, OptH_some, OptS_some, kont_app, ar_nil, ar_guard, ar_mv, ar_pick, ar_new, ar_box, ar_build, ar_buildSl, ar_load, ar_store, ar_nilChk, ar_bin, ar_un, ar_conv, ar_convSB, ar_convBS, ar_mkFunc, ar_mkIface, ar_mkSlice, ar_sl, ar_slStr, ar_fieldA, ar_field, ar_idxA, ar_idxArr, ar_idx, ar_idxS, ar_extract, ar_append, ar_len, ar_call, ar_callv, callvP_func, List.nil_append, List.cons_append, List.append_nil, ar_pf, ar_hf, ar_slA, upO_some, upO_none, sX_t, sX_c, sX_f, sXs, sXO, sXP, fin_t, fin_t2, fin_t3, up_same, up_ne, ne_eq, not_false_eq_true, AVal.bool.injEq, decide_eq_true_eq, decide_eq_false_iff_not, Int.ofNat_eq_natCast, Int.reduceNegSucc, Int.cast_ofNat_Int, reduceCtorEq, bin_lss, bin_leq, bin_gtr, bin_geq, bin_eql, bin_neq, bin_add, bin_sub, bin_mul, Bool.not_eq_true', Bool.not_eq_false', Bool.true_eq_false, Bool.false_eq_true, Nat.reduceEqDiff, ↓reduceIte, if_true, if_false, Nat.reduceAdd, Int.reduceEq, Int.reduceLT, Int.reduceLE]
  refine aw_loop (fun q (T : Env) H' => ∃ j : Nat, j ≤ s.length ∧ q = s.length - j ∧ T 0 = .str s ∧ T 1 = .int .i64 (j : Int) ∧ T 2 = .func (.func g) [] [] ∧ runF p s i = runF p s j ∧ H = H') (s.length - i) ⟨i, hi, rfl, rfl, rfl, rfl, rfl, rfl⟩ ?_
  rintro q T _ ⟨j, hj, rfl, g0, g1, g2, hA, rfl⟩
  by_cases hlt : j < s.length
  · have hlt' : (j : Int) < (s.length : Int) := by omega
    obtain ⟨c, hc⟩ := isSome_of_lt hlt
    simp only [pf_min, undef_bool, str_len, str_eql, str_neq, conv_in, un_not, eq_self, decide_true, decide_false, Bool.not_true, Bool.not_false, argE_0, argE_1, argE_2, argE_3, argE_4, aw_skip, aw_reg, aw_seq, aw_cond, aw_block, aw_exit, aw_ret, inSeq_normal, inSeq_exit, inSeq_ret, inBlk_exit, inBlk_normal, inBlk_ret, OptK_some, OptH_some, OptS_some, kont_app, ar_nil, ar_guard, ar_mv, ar_pick, ar_new, ar_box, ar_build, ar_buildSl, ar_load, ar_store, ar_nilChk, ar_bin, ar_un, ar_conv, ar_convSB, ar_convBS, ar_mkFunc, ar_mkIface, ar_mkSlice, ar_sl, ar_slStr, ar_fieldA, ar_field, ar_idxA, ar_idxArr, ar_idx, ar_idxS, ar_extract, ar_append, ar_len, ar_call, ar_callv, callvP_func, List.nil_append, List.cons_append, List.append_nil, ar_pf, ar_hf, ar_slA, upO_some, upO_none, sX_t, sX_c, sX_f, sXs, sXO, sXP, fin_t, fin_t2, fin_t3, up_same, up_ne, ne_eq, not_false_eq_true, AVal.bool.injEq, decide_eq_true_eq, decide_eq_false_iff_not, Int.ofNat_eq_natCast, Int.reduceNegSucc, Int.cast_ofNat_Int, reduceCtorEq, bin_lss, bin_leq, bin_gtr, bin_geq, bin_eql, bin_neq, bin_add, bin_sub, bin_mul, Bool.not_eq_true', Bool.not_eq_false', Bool.true_eq_false, Bool.false_eq_true, Nat.reduceEqDiff, ↓reduceIte, if_true, if_false, Nat.reduceAdd, Int.reduceEq, Int.reduceLT, Int.reduceLE, g0, g1, g2, hlt', str_idx hc]
    refine (hp c H).mono ?_
    rintro v _ ⟨rfl, rfl⟩
    cases hb : p c with
    | true =>
      simp only [pf_min, undef_bool, str_len, str_eql, str_neq, conv_in, un_not, eq_self, decide_true, decide_false, Bool.not_true, Bool.not_false, argE_0, argE_1, argE_2, argE_3, argE_4, aw_skip, aw_reg, aw_seq, aw_cond, aw_block, aw_exit, aw_ret, inSeq_normal, inSeq_exit, inSeq_ret, inBlk_exit, inBlk_normal, inBlk_ret, OptK_some, OptH_some, OptS_some, kont_app, ar_nil, ar_guard, ar_mv, ar_pick, ar_new, ar_box, ar_build, ar_buildSl, ar_load, ar_store, ar_nilChk, ar_bin, ar_un, ar_conv, ar_convSB, ar_convBS, ar_mkFunc, ar_mkIface, ar_mkSlice, ar_sl, ar_slStr, ar_fieldA, ar_field, ar_idxA, ar_idxArr, ar_idx, ar_idxS, ar_extract, ar_append, ar_len, ar_call, ar_callv, callvP_func, List.nil_append, List.cons_append, List.append_nil, ar_pf, ar_hf, ar_slA, upO_some, upO_none, sX_t, sX_c, sX_f, sXs, sXO, sXP, fin_t, fin_t2, fin_t3, up_same, up_ne, ne_eq, not_false_eq_true, AVal.bool.injEq, decide_eq_true_eq, decide_eq_false_iff_not, Int.ofNat_eq_natCast, Int.reduceNegSucc, Int.cast_ofNat_Int, reduceCtorEq, bin_lss, bin_leq, bin_gtr, bin_geq, bin_eql, bin_neq, bin_add, bin_sub, bin_mul, Bool.not_eq_true', Bool.not_eq_false', Bool.true_eq_false, Bool.false_eq_true, Nat.reduceEqDiff, ↓reduceIte, if_true, if_false, Nat.reduceAdd, Int.reduceEq, Int.reduceLT, Int.reduceLE, g0, g1, g2, wrap1 j (by omega)]
      exact ⟨_, by omega, j + 1, by omega, rfl, by trivial, rfl, by trivial, by rw [hA, runF_go hc hb], by trivial⟩
    | false =>
      simp only [pf_min, undef_bool, str_len, str_eql, str_neq, conv_in, un_not, eq_self, decide_true, decide_false, Bool.not_true, Bool.not_false, argE_0, argE_1, argE_2, argE_3, argE_4, aw_skip, aw_reg, aw_seq, aw_cond, aw_block, aw_exit, aw_ret, inSeq_normal, inSeq_exit, inSeq_ret, inBlk_exit, inBlk_normal, inBlk_ret, OptK_some, OptH_some, OptS_some, kont_app, ar_nil, ar_guard, ar_mv, ar_pick, ar_new, ar_box, ar_build, ar_buildSl, ar_load, ar_store, ar_nilChk, ar_bin, ar_un, ar_conv, ar_convSB, ar_convBS, ar_mkFunc, ar_mkIface, ar_mkSlice, ar_sl, ar_slStr, ar_fieldA, ar_field, ar_idxA, ar_idxArr, ar_idx, ar_idxS, ar_extract, ar_append, ar_len, ar_call, ar_callv, callvP_func, List.nil_append, List.cons_append, List.append_nil, ar_pf, ar_hf, ar_slA, upO_some, upO_none, sX_t, sX_c, sX_f, sXs, sXO, sXP, fin_t, fin_t2, fin_t3, up_same, up_ne, ne_eq, not_false_eq_true, AVal.bool.injEq, decide_eq_true_eq, decide_eq_false_iff_not, Int.ofNat_eq_natCast, Int.reduceNegSucc, Int.cast_ofNat_Int, reduceCtorEq, bin_lss, bin_leq, bin_gtr, bin_geq, bin_eql, bin_neq, bin_add, bin_sub, bin_mul, Bool.not_eq_true', Bool.not_eq_false', Bool.true_eq_false, Bool.false_eq_true, Nat.reduceEqDiff, ↓reduceIte, if_true, if_false, Nat.reduceAdd, Int.reduceEq, Int.reduceLT, Int.reduceLE, g0, g1, g2]
      exact ⟨by rw [hA, runF_no hc hb], by trivial⟩
  · have hlt' : ¬ (j : Int) < (s.length : Int) := by omega
    simp only [pf_min, undef_bool, str_len, str_eql, str_neq, conv_in, un_not, eq_self, decide_true, decide_false, Bool.not_true, Bool.not_false, argE_0, argE_1, argE_2, argE_3, argE_4, aw_skip, aw_reg, aw_seq, aw_cond, aw_block, aw_exit, aw_ret, inSeq_normal, inSeq_exit, inSeq_ret, inBlk_exit, inBlk_normal, inBlk_ret, OptK_some, OptH_some, OptS_some, kont_app, ar_nil, ar_guard, ar_mv, ar_pick, ar_new, ar_box, ar_build, ar_buildSl, ar_load, ar_store, ar_nilChk, ar_bin, ar_un, ar_conv, ar_convSB, ar_convBS, ar_mkFunc, ar_mkIface, ar_mkSlice, ar_sl, ar_slStr, ar_fieldA, ar_field, ar_idxA, ar_idxArr, ar_idx, ar_idxS, ar_extract, ar_append, ar_len, ar_call, ar_callv, callvP_func, List.nil_append, List.cons_append, List.append_nil, ar_pf, ar_hf, ar_slA, upO_some, upO_none, sX_t, sX_c, sX_f, sXs, sXO, sXP, fin_t, fin_t2, fin_t3, up_same, up_ne, ne_eq, not_false_eq_true, AVal.bool.injEq, decide_eq_true_eq, decide_eq_false_iff_not, Int.ofNat_eq_natCast, Int.reduceNegSucc, Int.cast_ofNat_Int, reduceCtorEq, bin_lss, bin_leq, bin_gtr, bin_geq, bin_eql, bin_neq, bin_add, bin_sub, bin_mul, Bool.not_eq_true', Bool.not_eq_false', Bool.true_eq_false, Bool.false_eq_true, Nat.reduceEqDiff, ↓reduceIte, if_true, if_false, Nat.reduceAdd, Int.reduceEq, Int.reduceLT, Int.reduceLE, g0, g1, g2, hlt']
    exact ⟨by rw [hA, runF_end (by omega)], by trivial⟩
/-- what is passed over -/
theorem skip_spec (h20 : N.is 20 = false) (h25 : N.is 25 = false) (h45 : N.is 45 = false) (h46 : N.is 46 = false) {H : AHeap} {s : Bs} {i : Nat} (hi : i ≤ s.length) (hs : s.length ≤ 4611686018427387904) :
    ACalls Tryd.prog N 20 [.str s, .int .i64 (i : Int)] H fun v H' => v = .int .i64 (skipF s i : Int) ∧ H = H' := by
  refine acalls_ofN h20 za20 rfl ?_
  simp only [c20, pf_min, undef_bool, str_len, str_eql, str_neq, conv_in, un_not, eq_self, decide_true, decide_false, Bool.not_true, Bool.not_false, argE_0, argE_1, argE_2, argE_3, argE_4, aw_skip, aw_reg, aw_seq, aw_cond, aw_block, aw_exit, aw_ret, inSeq_normal, inSeq_exit, inSeq_ret, inBlk_exit, inBlk_normal, inBlk_ret, OptK_some, OptH_some, OptS_some, kont_app, ar_nil, ar_guard, ar_mv, ar_pick, ar_new, ar_box, ar_build, ar_buildSl, ar_load, ar_store, ar_nilChk, ar_bin, ar_un, ar_conv, ar_convSB, ar_convBS, ar_mkFunc, ar_mkIface, ar_mkSlice, ar_sl, ar_slStr, ar_fieldA, ar_field, ar_idxA, ar_idxArr, ar_idx, ar_idxS, ar_extract, ar_append, ar_len, ar_call, ar_callv, callvP_func, List.nil_append, List.cons_append, List.append_nil, ar_pf, ar_hf, ar_slA, upO_some, upO_none, sX_t, sX_c, sX_f, sXs, sXO, sXP, fin_t, fin_t2, fin_t3, up_same, up_ne, ne_eq, not_false_eq_true, AVal.bool.injEq, decide_eq_true_eq, decide_eq_false_iff_not, Int.ofNat_eq_natCast, Int.reduceNegSucc, Int.cast_ofNat_Int, reduceCtorEq, bin_lss, bin_leq, bin_gtr, bin_geq, bin_eql, bin_neq, bin_add, bin_sub, bin_mul, Bool.not_eq_true', Bool.not_eq_false', Bool.true_eq_false, Bool.false_eq_true, Nat.reduceEqDiff, ↓reduceIte, if_true, if_false, Nat.reduceAdd, Int.reduceEq, Int.reduceLT, Int.reduceLE]
  refine aw_loop (fun q (T : Env) H' => ∃ j : Nat, j ≤ s.length ∧ q = s.length - j ∧ T 0 = .str s ∧ T 1 = .int .i64 (j : Int) ∧ skipF s i = skipF s j ∧ H = H') (s.length - i) ⟨i, hi, rfl, rfl, rfl, rfl, rfl⟩ ?_
  rintro q T _ ⟨j, hj, rfl, g0, g1, hA, rfl⟩
  simp only [pf_min, undef_bool, str_len, str_eql, str_neq, conv_in, un_not, eq_self, decide_true, decide_false, Bool.not_true, Bool.not_false, argE_0, argE_1, argE_2, argE_3, argE_4, aw_skip, aw_reg, aw_seq, aw_cond, aw_block, aw_exit, aw_ret, inSeq_normal, inSeq_exit, inSeq_ret, inBlk_exit, inBlk_normal, inBlk_ret, OptK_some, OptH_some, OptS_some, kont_app, ar_nil, ar_guard, ar_mv, ar_pick, ar_new, ar_box, ar_build, ar_buildSl, ar_load, ar_store, ar_nilChk, ar_bin, ar_un, ar_conv, ar_convSB, ar_convBS, ar_mkFunc, ar_mkIface, ar_mkSlice, ar_sl, ar_slStr, ar_fieldA, ar_field, ar_idxA, ar_idxArr, ar_idx, ar_idxS, ar_extract, ar_append, ar_len, ar_call, ar_callv, callvP_func, List.nil_append, List.cons_append, List.append_nil, ar_pf, ar_hf, ar_slA, upO_some, upO_none, sX_t, sX_c, sX_f, sXs, sXO, sXP, fin_t, fin_t2, fin_t3, up_same, up_ne, ne_eq, not_false_eq_true, AVal.bool.injEq, decide_eq_true_eq, decide_eq_false_iff_not, Int.ofNat_eq_natCast, Int.reduceNegSucc, Int.cast_ofNat_Int, reduceCtorEq, bin_lss, bin_leq, bin_gtr, bin_geq, bin_eql, bin_neq, bin_add, bin_sub, bin_mul, Bool.not_eq_true', Bool.not_eq_false', Bool.true_eq_false, Bool.false_eq_true, Nat.reduceEqDiff, ↓reduceIte, if_true, if_false, Nat.reduceAdd, Int.reduceEq, Int.reduceLT, Int.reduceLE, g0, g1]
  refine (run_spec h25 (blank_spec h45) hj hs).mono ?_
  rintro v _ ⟨rfl, rfl⟩
  have h1 := runF_ge blk s j
  have h2 := runF_le (p := blk) hj
  rw [← skip_run s j] at hA
  have hout : ∀ c, s[runF blk s j]? = some c → blk c = false := fun c => runF_out
  generalize runF blk s j = e at *
  by_cases he : e = s.length
  · have he' : (e : Int) = (s.length : Int) := by omega
    simp only [pf_min, undef_bool, str_len, str_eql, str_neq, conv_in, un_not, eq_self, decide_true, decide_false, Bool.not_true, Bool.not_false, argE_0, argE_1, argE_2, argE_3, argE_4, aw_skip, aw_reg, aw_seq, aw_cond, aw_block, aw_exit, aw_ret, inSeq_normal, inSeq_exit, inSeq_ret, inBlk_exit, inBlk_normal, inBlk_ret, OptK_some, OptH_some, OptS_some, kont_app, ar_nil, ar_guard, ar_mv, ar_pick, ar_new, ar_box, ar_build, ar_buildSl, ar_load, ar_store, ar_nilChk, ar_bin, ar_un, ar_conv, ar_convSB, ar_convBS, ar_mkFunc, ar_mkIface, ar_mkSlice, ar_sl, ar_slStr, ar_fieldA, ar_field, ar_idxA, ar_idxArr, ar_idx, ar_idxS, ar_extract, ar_append, ar_len, ar_call, ar_callv, callvP_func, List.nil_append, List.cons_append, List.append_nil, ar_pf, ar_hf, ar_slA, upO_some, upO_none, sX_t, sX_c, sX_f, sXs, sXO, sXP, fin_t, fin_t2, fin_t3, up_same, up_ne, ne_eq, not_false_eq_true, AVal.bool.injEq, decide_eq_true_eq, decide_eq_false_iff_not, Int.ofNat_eq_natCast, Int.reduceNegSucc, Int.cast_ofNat_Int, reduceCtorEq, bin_lss, bin_leq, bin_gtr, bin_geq, bin_eql, bin_neq, bin_add, bin_sub, bin_mul, Bool.not_eq_true', Bool.not_eq_false', Bool.true_eq_false, Bool.false_eq_true, Nat.reduceEqDiff, ↓reduceIte, if_true, if_false, Nat.reduceAdd, Int.reduceEq, Int.reduceLT, Int.reduceLE, g0, g1, he']
    exact ⟨by rw [hA, skip_end he.symm, he], by trivial⟩
  have he' : ¬ (e : Int) = (s.length : Int) := by omega
  obtain ⟨c, hc⟩ := isSome_of_lt (l := s) (i := e) (by omega)
  by_cases h35 : (c.toNat : Int) = 35
  · simp only [pf_min, undef_bool, str_len, str_eql, str_neq, conv_in, un_not, eq_self, decide_true, decide_false, Bool.not_true, Bool.not_false, argE_0, argE_1, argE_2, argE_3, argE_4, aw_skip, aw_reg, aw_seq, aw_cond, aw_block, aw_exit, aw_ret, inSeq_normal, inSeq_exit, inSeq_ret, inBlk_exit, inBlk_normal, inBlk_ret, OptK_some, OptH_some, OptS_some, kont_app, ar_nil, ar_guard, ar_mv, ar_pick, ar_new, ar_box, ar_build, ar_buildSl, ar_load, ar_store, ar_nilChk, ar_bin, ar_un, ar_conv, ar_convSB, ar_convBS, ar_mkFunc, ar_mkIface, ar_mkSlice, ar_sl, ar_slStr, ar_fieldA, ar_field, ar_idxA, ar_idxArr, ar_idx, ar_idxS, ar_extract, ar_append, ar_len, ar_call, ar_callv, callvP_func, List.nil_append, List.cons_append, List.append_nil, ar_pf, ar_hf, ar_slA, upO_some, upO_none, sX_t, sX_c, sX_f, sXs, sXO, sXP, fin_t, fin_t2, fin_t3, up_same, up_ne, ne_eq, not_false_eq_true, AVal.bool.injEq, decide_eq_true_eq, decide_eq_false_iff_not, Int.ofNat_eq_natCast, Int.reduceNegSucc, Int.cast_ofNat_Int, reduceCtorEq, bin_lss, bin_leq, bin_gtr, bin_geq, bin_eql, bin_neq, bin_add, bin_sub, bin_mul, Bool.not_eq_true', Bool.not_eq_false', Bool.true_eq_false, Bool.false_eq_true, Nat.reduceEqDiff, ↓reduceIte, if_true, if_false, Nat.reduceAdd, Int.reduceEq, Int.reduceLT, Int.reduceLE, g0, g1, he', str_idx hc, h35]
    refine (run_spec h25 (nline_spec h46) h2 hs).mono ?_
    rintro v _ ⟨rfl, rfl⟩
    have h3 := runF_le (p := nln) h2
    have hn : nln c = true := by simp [nln]; omega
    have h4 : e < runF nln s e := by rw [runF_go hc hn]; have := runF_ge nln s (e + 1); omega
    simp only [pf_min, undef_bool, str_len, str_eql, str_neq, conv_in, un_not, eq_self, decide_true, decide_false, Bool.not_true, Bool.not_false, argE_0, argE_1, argE_2, argE_3, argE_4, aw_skip, aw_reg, aw_seq, aw_cond, aw_block, aw_exit, aw_ret, inSeq_normal, inSeq_exit, inSeq_ret, inBlk_exit, inBlk_normal, inBlk_ret, OptK_some, OptH_some, OptS_some, kont_app, ar_nil, ar_guard, ar_mv, ar_pick, ar_new, ar_box, ar_build, ar_buildSl, ar_load, ar_store, ar_nilChk, ar_bin, ar_un, ar_conv, ar_convSB, ar_convBS, ar_mkFunc, ar_mkIface, ar_mkSlice, ar_sl, ar_slStr, ar_fieldA, ar_field, ar_idxA, ar_idxArr, ar_idx, ar_idxS, ar_extract, ar_append, ar_len, ar_call, ar_callv, callvP_func, List.nil_append, List.cons_append, List.append_nil, ar_pf, ar_hf, ar_slA, upO_some, upO_none, sX_t, sX_c, sX_f, sXs, sXO, sXP, fin_t, fin_t2, fin_t3, up_same, up_ne, ne_eq, not_false_eq_true, AVal.bool.injEq, decide_eq_true_eq, decide_eq_false_iff_not, Int.ofNat_eq_natCast, Int.reduceNegSucc, Int.cast_ofNat_Int, reduceCtorEq, bin_lss, bin_leq, bin_gtr, bin_geq, bin_eql, bin_neq, bin_add, bin_sub, bin_mul, Bool.not_eq_true', Bool.not_eq_false', Bool.true_eq_false, Bool.false_eq_true, Nat.reduceEqDiff, ↓reduceIte, if_true, if_false, Nat.reduceAdd, Int.reduceEq, Int.reduceLT, Int.reduceLE, g0, g1]
    exact ⟨_, by omega, runF nln s e, h3, rfl, by trivial, by trivial, by rw [hA, skip_remark hc (by omega)], by trivial⟩
  · simp only [pf_min, undef_bool, str_len, str_eql, str_neq, conv_in, un_not, eq_self, decide_true, decide_false, Bool.not_true, Bool.not_false, argE_0, argE_1, argE_2, argE_3, argE_4, aw_skip, aw_reg, aw_seq, aw_cond, aw_block, aw_exit, aw_ret, inSeq_normal, inSeq_exit, inSeq_ret, inBlk_exit, inBlk_normal, inBlk_ret, OptK_some, OptH_some, OptS_some, kont_app, ar_nil, ar_guard, ar_mv, ar_pick, ar_new, ar_box, ar_build, ar_buildSl, ar_load, ar_store, ar_nilChk, ar_bin, ar_un, ar_conv, ar_convSB, ar_convBS, ar_mkFunc, ar_mkIface, ar_mkSlice, ar_sl, ar_slStr, ar_fieldA, ar_field, ar_idxA, ar_idxArr, ar_idx, ar_idxS, ar_extract, ar_append, ar_len, ar_call, ar_callv, callvP_func, List.nil_append, List.cons_append, List.append_nil, ar_pf, ar_hf, ar_slA, upO_some, upO_none, sX_t, sX_c, sX_f, sXs, sXO, sXP, fin_t, fin_t2, fin_t3, up_same, up_ne, ne_eq, not_false_eq_true, AVal.bool.injEq, decide_eq_true_eq, decide_eq_false_iff_not, Int.ofNat_eq_natCast, Int.reduceNegSucc, Int.cast_ofNat_Int, reduceCtorEq, bin_lss, bin_leq, bin_gtr, bin_geq, bin_eql, bin_neq, bin_add, bin_sub, bin_mul, Bool.not_eq_true', Bool.not_eq_false', Bool.true_eq_false, Bool.false_eq_true, Nat.reduceEqDiff, ↓reduceIte, if_true, if_false, Nat.reduceAdd, Int.reduceEq, Int.reduceLT, Int.reduceLE, g0, g1, he', str_idx hc, h35]
    exact ⟨by rw [hA, skip_stop hc (hout c hc) (by omega)], by trivial⟩
/-- where the numeral ends -/
theorem numeral_spec (h23 : N.is 23 = false) (h25 : N.is 25 = false) (h22 : N.is 22 = false) {H : AHeap} {s : Bs} {i : Nat} (hi : i ≤ s.length) (hs : s.length ≤ 4611686018427387904) :
    ACalls Tryd.prog N 23 [.str s, .int .i64 (i : Int)] H fun v H' => v = .int .i64 (numF s i : Int) ∧ H = H' := by
  refine acalls_ofN h23 za23 rfl ?_
  simp only [c23, pf_min, undef_bool, str_len, str_eql, str_neq, conv_in, un_not, eq_self, decide_true, decide_false, Bool.not_true, Bool.not_false, argE_0, argE_1, argE_2, argE_3, argE_4, aw_skip, aw_reg, aw_seq, aw_cond, aw_block, aw_exit, aw_ret, inSeq_normal, inSeq_exit, inSeq_ret, inBlk_exit, inBlk_normal, inBlk_ret, OptK_some, OptH_some, OptS_some, kont_app, ar_nil, ar_guard, ar_mv, ar_pick, ar_new, ar_box, ar_build, ar_buildSl, ar_load, ar_store, ar_nilChk, ar_bin, ar_un, ar_conv, ar_convSB, ar_convBS, ar_mkFunc, ar_mkIface, ar_mkSlice, ar_sl, ar_slStr, ar_fieldA, ar_field, ar_idxA, ar_idxArr, ar_idx, ar_idxS, ar_extract, ar_append, ar_len, ar_call, ar_callv, callvP_func, List.nil_append, List.cons_append, List.append_nil, ar_pf, ar_hf, ar_slA, upO_some, upO_none, sX_t, sX_c, sX_f, sXs, sXO, sXP, fin_t, fin_t2, fin_t3, up_same, up_ne, ne_eq, not_false_eq_true, AVal.bool.injEq, decide_eq_true_eq, decide_eq_false_iff_not, Int.ofNat_eq_natCast, Int.reduceNegSucc, Int.cast_ofNat_Int, reduceCtorEq, bin_lss, bin_leq, bin_gtr, bin_geq, bin_eql, bin_neq, bin_add, bin_sub, bin_mul, Bool.not_eq_true', Bool.not_eq_false', Bool.true_eq_false, Bool.false_eq_true, Nat.reduceEqDiff, ↓reduceIte, if_true, if_false, Nat.reduceAdd, Int.reduceEq, Int.reduceLT, Int.reduceLE]
  refine (run_spec h25 (digit_spec h22) hi hs).mono ?_
  rintro v _ ⟨rfl, rfl⟩
  have h1 := runF_ge dig s i
  have h2 := runF_le (p := dig) hi
  unfold numF
  generalize runF dig s i = e at *
  by_cases he : (e : Int) = (i : Int)
  · obtain rfl : e = i := by omega
    simp only [pf_min, undef_bool, str_len, str_eql, str_neq, conv_in, un_not, eq_self, decide_true, decide_false, Bool.not_true, Bool.not_false, argE_0, argE_1, argE_2, argE_3, argE_4, aw_skip, aw_reg, aw_seq, aw_cond, aw_block, aw_exit, aw_ret, inSeq_normal, inSeq_exit, inSeq_ret, inBlk_exit, inBlk_normal, inBlk_ret, OptK_some, OptH_some, OptS_some, kont_app, ar_nil, ar_guard, ar_mv, ar_pick, ar_new, ar_box, ar_build, ar_buildSl, ar_load, ar_store, ar_nilChk, ar_bin, ar_un, ar_conv, ar_convSB, ar_convBS, ar_mkFunc, ar_mkIface, ar_mkSlice, ar_sl, ar_slStr, ar_fieldA, ar_field, ar_idxA, ar_idxArr, ar_idx, ar_idxS, ar_extract, ar_append, ar_len, ar_call, ar_callv, callvP_func, List.nil_append, List.cons_append, List.append_nil, ar_pf, ar_hf, ar_slA, upO_some, upO_none, sX_t, sX_c, sX_f, sXs, sXO, sXP, fin_t, fin_t2, fin_t3, up_same, up_ne, ne_eq, not_false_eq_true, AVal.bool.injEq, decide_eq_true_eq, decide_eq_false_iff_not, Int.ofNat_eq_natCast, Int.reduceNegSucc, Int.cast_ofNat_Int, reduceCtorEq, bin_lss, bin_leq, bin_gtr, bin_geq, bin_eql, bin_neq, bin_add, bin_sub, bin_mul, Bool.not_eq_true', Bool.not_eq_false', Bool.true_eq_false, Bool.false_eq_true, Nat.reduceEqDiff, ↓reduceIte, if_true, if_false, Nat.reduceAdd, Int.reduceEq, Int.reduceLT, Int.reduceLE]
    exact ⟨by rw [if_pos (.inl (by trivial))], by trivial⟩
  by_cases hl : (e : Int) = (s.length : Int)
  · obtain rfl : e = s.length := by omega
    have hn : s[s.length]? = none := List.getElem?_eq_none (by omega)
    simp only [pf_min, undef_bool, str_len, str_eql, str_neq, conv_in, un_not, eq_self, decide_true, decide_false, Bool.not_true, Bool.not_false, argE_0, argE_1, argE_2, argE_3, argE_4, aw_skip, aw_reg, aw_seq, aw_cond, aw_block, aw_exit, aw_ret, inSeq_normal, inSeq_exit, inSeq_ret, inBlk_exit, inBlk_normal, inBlk_ret, OptK_some, OptH_some, OptS_some, kont_app, ar_nil, ar_guard, ar_mv, ar_pick, ar_new, ar_box, ar_build, ar_buildSl, ar_load, ar_store, ar_nilChk, ar_bin, ar_un, ar_conv, ar_convSB, ar_convBS, ar_mkFunc, ar_mkIface, ar_mkSlice, ar_sl, ar_slStr, ar_fieldA, ar_field, ar_idxA, ar_idxArr, ar_idx, ar_idxS, ar_extract, ar_append, ar_len, ar_call, ar_callv, callvP_func, List.nil_append, List.cons_append, List.append_nil, ar_pf, ar_hf, ar_slA, upO_some, upO_none, sX_t, sX_c, sX_f, sXs, sXO, sXP, fin_t, fin_t2, fin_t3, up_same, up_ne, ne_eq, not_false_eq_true, AVal.bool.injEq, decide_eq_true_eq, decide_eq_false_iff_not, Int.ofNat_eq_natCast, Int.reduceNegSucc, Int.cast_ofNat_Int, reduceCtorEq, bin_lss, bin_leq, bin_gtr, bin_geq, bin_eql, bin_neq, bin_add, bin_sub, bin_mul, Bool.not_eq_true', Bool.not_eq_false', Bool.true_eq_false, Bool.false_eq_true, Nat.reduceEqDiff, ↓reduceIte, if_true, if_false, Nat.reduceAdd, Int.reduceEq, Int.reduceLT, Int.reduceLE, he]
    exact ⟨by rw [if_pos (.inr (by rw [hn]; simp))], by trivial⟩
  obtain ⟨c, hc⟩ := isSome_of_lt (l := s) (i := e) (by omega)
  by_cases h46 : (c.toNat : Int) = 46
  · have hc46 : s[e]? = some 46 := by
      rw [hc]; congr 1; exact UInt8.toNat_inj.1 (by simpa using (show c.toNat = 46 by omega))
    have hcond : ¬ (e = i ∨ s[e]? ≠ some 46) := by
      rintro (h | h)
      · omega
      · exact h hc46
    rw [if_neg hcond]
    simp only [pf_min, undef_bool, str_len, str_eql, str_neq, conv_in, un_not, eq_self, decide_true, decide_false, Bool.not_true, Bool.not_false, argE_0, argE_1, argE_2, argE_3, argE_4, aw_skip, aw_reg, aw_seq, aw_cond, aw_block, aw_exit, aw_ret, inSeq_normal, inSeq_exit, inSeq_ret, inBlk_exit, inBlk_normal, inBlk_ret, OptK_some, OptH_some, OptS_some, kont_app, ar_nil, ar_guard, ar_mv, ar_pick, ar_new, ar_box, ar_build, ar_buildSl, ar_load, ar_store, ar_nilChk, ar_bin, ar_un, ar_conv, ar_convSB, ar_convBS, ar_mkFunc, ar_mkIface, ar_mkSlice, ar_sl, ar_slStr, ar_fieldA, ar_field, ar_idxA, ar_idxArr, ar_idx, ar_idxS, ar_extract, ar_append, ar_len, ar_call, ar_callv, callvP_func, List.nil_append, List.cons_append, List.append_nil, ar_pf, ar_hf, ar_slA, upO_some, upO_none, sX_t, sX_c, sX_f, sXs, sXO, sXP, fin_t, fin_t2, fin_t3, up_same, up_ne, ne_eq, not_false_eq_true, AVal.bool.injEq, decide_eq_true_eq, decide_eq_false_iff_not, Int.ofNat_eq_natCast, Int.reduceNegSucc, Int.cast_ofNat_Int, reduceCtorEq, bin_lss, bin_leq, bin_gtr, bin_geq, bin_eql, bin_neq, bin_add, bin_sub, bin_mul, Bool.not_eq_true', Bool.not_eq_false', Bool.true_eq_false, Bool.false_eq_true, Nat.reduceEqDiff, ↓reduceIte, if_true, if_false, Nat.reduceAdd, Int.reduceEq, Int.reduceLT, Int.reduceLE, he, hl, str_idx hc, h46, wrap1 e (by omega)]
    refine (run_spec h25 (digit_spec h22) (i := e + 1) (by omega) hs).mono ?_
    rintro v _ ⟨rfl, rfl⟩
    by_cases hm : ((e + 1 : Nat) : Int) < (runF dig s (e + 1) : Int)
    · simp only [pf_min, undef_bool, str_len, str_eql, str_neq, conv_in, un_not, eq_self, decide_true, decide_false, Bool.not_true, Bool.not_false, argE_0, argE_1, argE_2, argE_3, argE_4, aw_skip, aw_reg, aw_seq, aw_cond, aw_block, aw_exit, aw_ret, inSeq_normal, inSeq_exit, inSeq_ret, inBlk_exit, inBlk_normal, inBlk_ret, OptK_some, OptH_some, OptS_some, kont_app, ar_nil, ar_guard, ar_mv, ar_pick, ar_new, ar_box, ar_build, ar_buildSl, ar_load, ar_store, ar_nilChk, ar_bin, ar_un, ar_conv, ar_convSB, ar_convBS, ar_mkFunc, ar_mkIface, ar_mkSlice, ar_sl, ar_slStr, ar_fieldA, ar_field, ar_idxA, ar_idxArr, ar_idx, ar_idxS, ar_extract, ar_append, ar_len, ar_call, ar_callv, callvP_func, List.nil_append, List.cons_append, List.append_nil, ar_pf, ar_hf, ar_slA, upO_some, upO_none, sX_t, sX_c, sX_f, sXs, sXO, sXP, fin_t, fin_t2, fin_t3, up_same, up_ne, ne_eq, not_false_eq_true, AVal.bool.injEq, decide_eq_true_eq, decide_eq_false_iff_not, Int.ofNat_eq_natCast, Int.reduceNegSucc, Int.cast_ofNat_Int, reduceCtorEq, bin_lss, bin_leq, bin_gtr, bin_geq, bin_eql, bin_neq, bin_add, bin_sub, bin_mul, Bool.not_eq_true', Bool.not_eq_false', Bool.true_eq_false, Bool.false_eq_true, Nat.reduceEqDiff, ↓reduceIte, if_true, if_false, Nat.reduceAdd, Int.reduceEq, Int.reduceLT, Int.reduceLE, wrap1 e (by omega), hm]
      exact ⟨by rw [if_pos (by omega)], by trivial⟩
    · simp only [pf_min, undef_bool, str_len, str_eql, str_neq, conv_in, un_not, eq_self, decide_true, decide_false, Bool.not_true, Bool.not_false, argE_0, argE_1, argE_2, argE_3, argE_4, aw_skip, aw_reg, aw_seq, aw_cond, aw_block, aw_exit, aw_ret, inSeq_normal, inSeq_exit, inSeq_ret, inBlk_exit, inBlk_normal, inBlk_ret, OptK_some, OptH_some, OptS_some, kont_app, ar_nil, ar_guard, ar_mv, ar_pick, ar_new, ar_box, ar_build, ar_buildSl, ar_load, ar_store, ar_nilChk, ar_bin, ar_un, ar_conv, ar_convSB, ar_convBS, ar_mkFunc, ar_mkIface, ar_mkSlice, ar_sl, ar_slStr, ar_fieldA, ar_field, ar_idxA, ar_idxArr, ar_idx, ar_idxS, ar_extract, ar_append, ar_len, ar_call, ar_callv, callvP_func, List.nil_append, List.cons_append, List.append_nil, ar_pf, ar_hf, ar_slA, upO_some, upO_none, sX_t, sX_c, sX_f, sXs, sXO, sXP, fin_t, fin_t2, fin_t3, up_same, up_ne, ne_eq, not_false_eq_true, AVal.bool.injEq, decide_eq_true_eq, decide_eq_false_iff_not, Int.ofNat_eq_natCast, Int.reduceNegSucc, Int.cast_ofNat_Int, reduceCtorEq, bin_lss, bin_leq, bin_gtr, bin_geq, bin_eql, bin_neq, bin_add, bin_sub, bin_mul, Bool.not_eq_true', Bool.not_eq_false', Bool.true_eq_false, Bool.false_eq_true, Nat.reduceEqDiff, ↓reduceIte, if_true, if_false, Nat.reduceAdd, Int.reduceEq, Int.reduceLT, Int.reduceLE, wrap1 e (by omega), hm]
      exact ⟨by rw [if_neg (by omega)], by trivial⟩
  · have hcond : e = i ∨ s[e]? ≠ some 46 := by
      right
      rw [hc]
      intro h
      simp only [Option.some.injEq] at h
      subst h
      exact h46 rfl
    rw [if_pos hcond]
    simp only [pf_min, undef_bool, str_len, str_eql, str_neq, conv_in, un_not, eq_self, decide_true, decide_false, Bool.not_true, Bool.not_false, argE_0, argE_1, argE_2, argE_3, argE_4, aw_skip, aw_reg, aw_seq, aw_cond, aw_block, aw_exit, aw_ret, inSeq_normal, inSeq_exit, inSeq_ret, inBlk_exit, inBlk_normal, inBlk_ret, OptK_some, OptH_some, OptS_some, kont_app, ar_nil, ar_guard, ar_mv, ar_pick, ar_new, ar_box, ar_build, ar_buildSl, ar_load, ar_store, ar_nilChk, ar_bin, ar_un, ar_conv, ar_convSB, ar_convBS, ar_mkFunc, ar_mkIface, ar_mkSlice, ar_sl, ar_slStr, ar_fieldA, ar_field, ar_idxA, ar_idxArr, ar_idx, ar_idxS, ar_extract, ar_append, ar_len, ar_call, ar_callv, callvP_func, List.nil_append, List.cons_append, List.append_nil, ar_pf, ar_hf, ar_slA, upO_some, upO_none, sX_t, sX_c, sX_f, sXs, sXO, sXP, fin_t, fin_t2, fin_t3, up_same, up_ne, ne_eq, not_false_eq_true, AVal.bool.injEq, decide_eq_true_eq, decide_eq_false_iff_not, Int.ofNat_eq_natCast, Int.reduceNegSucc, Int.cast_ofNat_Int, reduceCtorEq, bin_lss, bin_leq, bin_gtr, bin_geq, bin_eql, bin_neq, bin_add, bin_sub, bin_mul, Bool.not_eq_true', Bool.not_eq_false', Bool.true_eq_false, Bool.false_eq_true, Nat.reduceEqDiff, ↓reduceIte, if_true, if_false, Nat.reduceAdd, Int.reduceEq, Int.reduceLT, Int.reduceLE, he, hl, str_idx hc, h46]
    exact ⟨by trivial, by trivial⟩
end Go.Proofs.Wo
/- Words: what digits behind a point say: the contract. -/
namespace Go.Proofs.Wo
open Go.Abs Go.Abs.S
set_option linter.unusedSimpArgs false
variable {N : ANat}
def digs (s : Bs) : List Nat := s.map dv
theorem digs_le {s : Bs} (h : ∀ c ∈ s, dig c = true) : ∀ d ∈ digs s, d ≤ 9 := by
  intro d hd
  obtain ⟨c, hc, rfl⟩ := List.mem_map.1 hd
  have := h c hc
  simp [dig] at this
  unfold dv; omega
/-- the first i digits, and noughts -/
def pad (s : Bs) (i : Nat) : List Nat := digs (s.take i) ++ List.replicate (32 - i) 0
theorem pad_len (s : Bs) {i : Nat} (h : i ≤ s.length) (h2 : i ≤ 32) : (pad s i).length = 32 := by
  simp [pad, digs]; omega
theorem pad_set (s : Bs) {i : Nat} {c : UInt8} (hc : s[i]? = some c) (h2 : i < 32) : (pad s i).set i (dv c) = pad s (i + 1) := by
  have hlt := (List.getElem?_eq_some_iff.1 hc).1
  have hl : (digs (s.take i)).length = i := by simp [digs]; omega
  unfold pad
  rw [List.set_append_right _ _ (by omega), hl, Nat.sub_self, show 32 - i = (32 - (i + 1)) + 1 by omega, List.replicate_succ, List.set_cons_zero]
  rw [List.take_add_one, hc]
  simp [digs]
theorem pad_frac (s : Bs) (h : ∀ c ∈ s, dig c = true) : frac (pad s (min s.length 32)) = frac (digs s) := by
  by_cases hl : s.length ≤ 32
  · rw [Nat.min_eq_left hl, pad, List.take_length, frac_pad]
  · rw [Nat.min_eq_right (by omega)]
    have e : pad s 32 = (digs s).take 32 := by simp [pad, digs, List.map_take]
    rw [e, frac_take (digs_le h) (by simp [digs]; omega)]
/-- the digits behind the first m are twice what they were -/
def half (l : List Nat) (m : Nat) : List Nat := l.take m ++ (dbl (l.drop m)).2
theorem half_all (l : List Nat) : half l l.length = l := by simp [half, dbl]
theorem half_zero (l : List Nat) : half l 0 = (dbl l).2 := by simp [half]
theorem half_len (l : List Nat) (m : Nat) : (half l m).length = l.length := by
  simp [half, dbl_len]; omega
theorem half_get {l : List Nat} {m d : Nat} (h : l[m]? = some d) : (half l (m + 1))[m]? = some d := by
  have hlt := (List.getElem?_eq_some_iff.1 h).1
  rw [half, List.getElem?_append_left (by simp; omega), List.getElem?_take_of_lt (by omega), h]
theorem drop_at {l : List Nat} {m d : Nat} (h : l[m]? = some d) : l.drop m = d :: l.drop (m + 1) := by
  have hlt := (List.getElem?_eq_some_iff.1 h).1
  rw [List.drop_eq_getElem_cons hlt]
  congr 1
  rw [List.getElem?_eq_getElem hlt] at h
  simpa using h
theorem half_set {l : List Nat} {m d : Nat} (h : l[m]? = some d) : (half l (m + 1)).set m ((d * 2 + (dbl (l.drop (m + 1))).1) % 10) = half l m := by
  have hlt := (List.getElem?_eq_some_iff.1 h).1
  unfold half
  rw [drop_at h, dbl]
  rw [List.set_append_left _ _ (by simp; omega)]
  rw [List.take_add_one, h, Option.toList_some, List.set_append_right _ _ (by simp; omega), List.append_assoc]
  congr 1
  have : m - (l.take m).length = 0 := by simp; omega
  rw [this]; rfl
theorem part_spec (h35 : N.is 35 = false) {H : AHeap} {s : Bs} (hd : ∀ c ∈ s, dig c = true) (hs : s.length ≤ 4611686018427387904) :
    ACalls Tryd.prog N 35 [.str s] H fun v H' => v = .int .i64 (frac (digs s) : Int) ∧ Ext H.next H H' := by
  refine acalls_ofN h35 za35 rfl ?_
  obtain ⟨H1, m1, r1, n1, k1⟩ := row_newL H (u8s (List.replicate 32 0)) (n := 32) rfl
  have hz : u8s (List.replicate 32 0) = [.int .u8 0, .int .u8 0, .int .u8 0, .int .u8 0, .int .u8 0, .int .u8 0, .int .u8 0, .int .u8 0, .int .u8 0, .int .u8 0, .int .u8 0, .int .u8 0, .int .u8 0, .int .u8 0, .int .u8 0, .int .u8 0, .int .u8 0, .int .u8 0, .int .u8 0, .int .u8 0, .int .u8 0, .int .u8 0, .int .u8 0, .int .u8 0, .int .u8 0, .int .u8 0, .int .u8 0, .int .u8 0, .int .u8 0, .int .u8 0, .int .u8 0, .int .u8 0] := rfl
  rw [hz] at m1
  have hmin : (if (32 : Int) < (s.length : Int) then (32 : Int) else (s.length : Int)) = ((min s.length 32 : Nat) : Int) := by
    split <;> omega
  simp only [c35, pf_min, undef_bool, str_len, str_eql, str_neq, conv_in, un_not, eq_self, decide_true, decide_false, Bool.not_true, Bool.not_false, argE_0, argE_1, argE_2, argE_3, argE_4, aw_skip, aw_reg, aw_seq, aw_cond, aw_block, aw_exit, aw_ret, inSeq_normal, inSeq_exit, inSeq_ret, inBlk_exit, inBlk_normal, inBlk_ret, OptK_some, OptH_some, OptS_some, kont_app, ar_nil, ar_guard, ar_mv, ar_pick, ar_new, ar_box, ar_build, ar_buildSl, ar_load, ar_store, ar_nilChk, ar_bin, ar_un, ar_conv, ar_convSB, ar_convBS, ar_mkFunc, ar_mkIface, ar_mkSlice, ar_sl, ar_slStr, ar_fieldA, ar_field, ar_idxA, ar_idxArr, ar_idx, ar_idxS, ar_extract, ar_append, ar_len, ar_call, ar_callv, callvP_func, List.nil_append, List.cons_append, List.append_nil, ar_pf, ar_hf, ar_slA, upO_some, upO_none, sX_t, sX_c, sX_f, sXs, sXO, sXP, fin_t, fin_t2, fin_t3, up_same, up_ne, ne_eq, not_false_eq_true, AVal.bool.injEq, decide_eq_true_eq, decide_eq_false_iff_not, Int.ofNat_eq_natCast, Int.reduceNegSucc, Int.cast_ofNat_Int, reduceCtorEq, bin_lss, bin_leq, bin_gtr, bin_geq, bin_eql, bin_neq, bin_add, bin_sub, bin_mul, Bool.not_eq_true', Bool.not_eq_false', Bool.true_eq_false, Bool.false_eq_true, Nat.reduceEqDiff, ↓reduceIte, if_true, if_false, Nat.reduceAdd, Int.reduceEq, Int.reduceLT, Int.reduceLE, m1, hmin]
  have p0 : pad s 0 = List.replicate 32 0 := by simp [pad, digs]
  rw [← p0] at r1
  generalize hb : H.next = b at *
  refine aw_loop (fun q (T : Env) H' => ∃ i : Nat, i ≤ min s.length 32 ∧ q = min s.length 32 - i ∧ T 0 = .str s ∧ T 3 = cellR b 32 0 ∧ T 11 = .int .i64 ((min s.length 32 : Nat) : Int) ∧ T 12 = .int .i64 (i : Int) ∧ Row H' b (u8s (pad s i)) ∧ H'.next = b + 1 ∧ ∀ c, c < b → H'.get c = H.get c) (min s.length 32)
    ⟨0, Nat.zero_le _, rfl, rfl, by simp only [pf_min, undef_bool, str_len, str_eql, str_neq, conv_in, un_not, eq_self, decide_true, decide_false, Bool.not_true, Bool.not_false, argE_0, argE_1, argE_2, argE_3, argE_4, aw_skip, aw_reg, aw_seq, aw_cond, aw_block, aw_exit, aw_ret, inSeq_normal, inSeq_exit, inSeq_ret, inBlk_exit, inBlk_normal, inBlk_ret, OptK_some, OptH_some, OptS_some, kont_app, ar_nil, ar_guard, ar_mv, ar_pick, ar_new, ar_box, ar_build, ar_buildSl, ar_load, ar_store, ar_nilChk, ar_bin, ar_un, ar_conv, ar_convSB, ar_convBS, ar_mkFunc, ar_mkIface, ar_mkSlice, ar_sl, ar_slStr, ar_fieldA, ar_field, ar_idxA, ar_idxArr, ar_idx, ar_idxS, ar_extract, ar_append, ar_len, ar_call, ar_callv, callvP_func, List.nil_append, List.cons_append, List.append_nil, ar_pf, ar_hf, ar_slA, upO_some, upO_none, sX_t, sX_c, sX_f, sXs, sXO, sXP, fin_t, fin_t2, fin_t3, up_same, up_ne, ne_eq, not_false_eq_true, AVal.bool.injEq, decide_eq_true_eq, decide_eq_false_iff_not, Int.ofNat_eq_natCast, Int.reduceNegSucc, Int.cast_ofNat_Int, reduceCtorEq, bin_lss, bin_leq, bin_gtr, bin_geq, bin_eql, bin_neq, bin_add, bin_sub, bin_mul, Bool.not_eq_true', Bool.not_eq_false', Bool.true_eq_false, Bool.false_eq_true, Nat.reduceEqDiff, ↓reduceIte, if_true, if_false, Nat.reduceAdd, Int.reduceEq, Int.reduceLT, Int.reduceLE], by simp only [pf_min, undef_bool, str_len, str_eql, str_neq, conv_in, un_not, eq_self, decide_true, decide_false, Bool.not_true, Bool.not_false, argE_0, argE_1, argE_2, argE_3, argE_4, aw_skip, aw_reg, aw_seq, aw_cond, aw_block, aw_exit, aw_ret, inSeq_normal, inSeq_exit, inSeq_ret, inBlk_exit, inBlk_normal, inBlk_ret, OptK_some, OptH_some, OptS_some, kont_app, ar_nil, ar_guard, ar_mv, ar_pick, ar_new, ar_box, ar_build, ar_buildSl, ar_load, ar_store, ar_nilChk, ar_bin, ar_un, ar_conv, ar_convSB, ar_convBS, ar_mkFunc, ar_mkIface, ar_mkSlice, ar_sl, ar_slStr, ar_fieldA, ar_field, ar_idxA, ar_idxArr, ar_idx, ar_idxS, ar_extract, ar_append, ar_len, ar_call, ar_callv, callvP_func, List.nil_append, List.cons_append, List.append_nil, ar_pf, ar_hf, ar_slA, upO_some, upO_none, sX_t, sX_c, sX_f, sXs, sXO, sXP, fin_t, fin_t2, fin_t3, up_same, up_ne, ne_eq, not_false_eq_true, AVal.bool.injEq, decide_eq_true_eq, decide_eq_false_iff_not, Int.ofNat_eq_natCast, Int.reduceNegSucc, Int.cast_ofNat_Int, reduceCtorEq, bin_lss, bin_leq, bin_gtr, bin_geq, bin_eql, bin_neq, bin_add, bin_sub, bin_mul, Bool.not_eq_true', Bool.not_eq_false', Bool.true_eq_false, Bool.false_eq_true, Nat.reduceEqDiff, ↓reduceIte, if_true, if_false, Nat.reduceAdd, Int.reduceEq, Int.reduceLT, Int.reduceLE], by simp only [pf_min, undef_bool, str_len, str_eql, str_neq, conv_in, un_not, eq_self, decide_true, decide_false, Bool.not_true, Bool.not_false, argE_0, argE_1, argE_2, argE_3, argE_4, aw_skip, aw_reg, aw_seq, aw_cond, aw_block, aw_exit, aw_ret, inSeq_normal, inSeq_exit, inSeq_ret, inBlk_exit, inBlk_normal, inBlk_ret, OptK_some, OptH_some, OptS_some, kont_app, ar_nil, ar_guard, ar_mv, ar_pick, ar_new, ar_box, ar_build, ar_buildSl, ar_load, ar_store, ar_nilChk, ar_bin, ar_un, ar_conv, ar_convSB, ar_convBS, ar_mkFunc, ar_mkIface, ar_mkSlice, ar_sl, ar_slStr, ar_fieldA, ar_field, ar_idxA, ar_idxArr, ar_idx, ar_idxS, ar_extract, ar_append, ar_len, ar_call, ar_callv, callvP_func, List.nil_append, List.cons_append, List.append_nil, ar_pf, ar_hf, ar_slA, upO_some, upO_none, sX_t, sX_c, sX_f, sXs, sXO, sXP, fin_t, fin_t2, fin_t3, up_same, up_ne, ne_eq, not_false_eq_true, AVal.bool.injEq, decide_eq_true_eq, decide_eq_false_iff_not, Int.ofNat_eq_natCast, Int.reduceNegSucc, Int.cast_ofNat_Int, reduceCtorEq, bin_lss, bin_leq, bin_gtr, bin_geq, bin_eql, bin_neq, bin_add, bin_sub, bin_mul, Bool.not_eq_true', Bool.not_eq_false', Bool.true_eq_false, Bool.false_eq_true, Nat.reduceEqDiff, ↓reduceIte, if_true, if_false, Nat.reduceAdd, Int.reduceEq, Int.reduceLT, Int.reduceLE]; try rfl, r1, by omega, fun c hc => k1 c (by omega)⟩ ?_
  clear m1 r1 k1 n1 H1
  rintro q T H1 ⟨i, hi, rfl, g0, g3, g11, g12, r1, n1, k1⟩
  by_cases hlt : i < min s.length 32
  · have hlt' : (i : Int) < ((min s.length 32 : Nat) : Int) := by omega
    obtain ⟨c, hc⟩ := isSome_of_lt (l := s) (i := i) (by omega)
    have hdc := hd c (List.mem_of_getElem? hc)
    have hdv : (c.toNat : Int) - 48 = ((dv c : Nat) : Int) := by simp [dig] at hdc; unfold dv; omega
    have hd9 : dv c ≤ 9 := by simp [dig] at hdc; unfold dv; omega
    have hw : IntKind.u8.wrap ((dv c : Nat) : Int) = ((dv c : Nat) : Int) := wrapU8 (by omega) (by omega)
    have ia := arr_idx (b := b) (n := 32) (i := i) (by omega) .i64
    obtain ⟨H2, m2, r2, n2, k2⟩ := row_store r1 (n := 32) (by rw [u8s_len, pad_len s (by omega) (by omega)]) (i := i) (by omega) (x := .int .u8 ((dv c : Nat) : Int)) rfl
    simp only [pf_min, undef_bool, str_len, str_eql, str_neq, conv_in, un_not, eq_self, decide_true, decide_false, Bool.not_true, Bool.not_false, argE_0, argE_1, argE_2, argE_3, argE_4, aw_skip, aw_reg, aw_seq, aw_cond, aw_block, aw_exit, aw_ret, inSeq_normal, inSeq_exit, inSeq_ret, inBlk_exit, inBlk_normal, inBlk_ret, OptK_some, OptH_some, OptS_some, kont_app, ar_nil, ar_guard, ar_mv, ar_pick, ar_new, ar_box, ar_build, ar_buildSl, ar_load, ar_store, ar_nilChk, ar_bin, ar_un, ar_conv, ar_convSB, ar_convBS, ar_mkFunc, ar_mkIface, ar_mkSlice, ar_sl, ar_slStr, ar_fieldA, ar_field, ar_idxA, ar_idxArr, ar_idx, ar_idxS, ar_extract, ar_append, ar_len, ar_call, ar_callv, callvP_func, List.nil_append, List.cons_append, List.append_nil, ar_pf, ar_hf, ar_slA, upO_some, upO_none, sX_t, sX_c, sX_f, sXs, sXO, sXP, fin_t, fin_t2, fin_t3, up_same, up_ne, ne_eq, not_false_eq_true, AVal.bool.injEq, decide_eq_true_eq, decide_eq_false_iff_not, Int.ofNat_eq_natCast, Int.reduceNegSucc, Int.cast_ofNat_Int, reduceCtorEq, bin_lss, bin_leq, bin_gtr, bin_geq, bin_eql, bin_neq, bin_add, bin_sub, bin_mul, Bool.not_eq_true', Bool.not_eq_false', Bool.true_eq_false, Bool.false_eq_true, Nat.reduceEqDiff, ↓reduceIte, if_true, if_false, Nat.reduceAdd, Int.reduceEq, Int.reduceLT, Int.reduceLE, g0, g3, g11, g12, hlt', str_idx hc, hdv, hw, ia, m2, wrap1 i (by omega)]
    refine ⟨_, by omega, i + 1, by omega, rfl, by trivial, by trivial, by trivial, rfl, ?_, by omega, fun c hc => (k2 c (by omega)).trans (k1 c hc)⟩
    rw [← pad_set s hc (by omega), u8s_set]
    exact r2
  obtain rfl : i = min s.length 32 := by omega
  simp only [pf_min, undef_bool, str_len, str_eql, str_neq, conv_in, un_not, eq_self, decide_true, decide_false, Bool.not_true, Bool.not_false, argE_0, argE_1, argE_2, argE_3, argE_4, aw_skip, aw_reg, aw_seq, aw_cond, aw_block, aw_exit, aw_ret, inSeq_normal, inSeq_exit, inSeq_ret, inBlk_exit, inBlk_normal, inBlk_ret, OptK_some, OptH_some, OptS_some, kont_app, ar_nil, ar_guard, ar_mv, ar_pick, ar_new, ar_box, ar_build, ar_buildSl, ar_load, ar_store, ar_nilChk, ar_bin, ar_un, ar_conv, ar_convSB, ar_convBS, ar_mkFunc, ar_mkIface, ar_mkSlice, ar_sl, ar_slStr, ar_fieldA, ar_field, ar_idxA, ar_idxArr, ar_idx, ar_idxS, ar_extract, ar_append, ar_len, ar_call, ar_callv, callvP_func, List.nil_append, List.cons_append, List.append_nil, ar_pf, ar_hf, ar_slA, upO_some, upO_none, sX_t, sX_c, sX_f, sXs, sXO, sXP, fin_t, fin_t2, fin_t3, up_same, up_ne, ne_eq, not_false_eq_true, AVal.bool.injEq, decide_eq_true_eq, decide_eq_false_iff_not, Int.ofNat_eq_natCast, Int.reduceNegSucc, Int.cast_ofNat_Int, reduceCtorEq, bin_lss, bin_leq, bin_gtr, bin_geq, bin_eql, bin_neq, bin_add, bin_sub, bin_mul, Bool.not_eq_true', Bool.not_eq_false', Bool.true_eq_false, Bool.false_eq_true, Nat.reduceEqDiff, ↓reduceIte, if_true, if_false, Nat.reduceAdd, Int.reduceEq, Int.reduceLT, Int.reduceLE, g0, g3, g11, g12, Int.lt_irrefl]
  have hl := pad_len s (i := min s.length 32) (by omega) (by omega)
  have hp9 : ∀ d ∈ pad s (min s.length 32), d ≤ 9 := by
    intro d hdm
    rcases List.mem_append.1 hdm with h | h
    · exact digs_le (s := s.take (min s.length 32)) (fun c hc => hd c (List.mem_of_mem_take hc)) d h
    · have := (List.mem_replicate.1 h).2; omega
  rw [← pad_frac s hd]
  generalize pad s (min s.length 32) = l at *
  refine aw_loop (fun q (T : Env) H' => ∃ k : Nat, k ≤ 32 ∧ q = 32 - k ∧ T 3 = cellR b 32 0 ∧ T 5 = .int .i64 ((bits l 0 k).1 : Int) ∧ T 22 = .int .i64 (k : Int) ∧ Row H' b (u8s (bits l 0 k).2) ∧ H'.next = b + 1 ∧ ∀ c, c < b → H'.get c = H.get c) 32
    ⟨0, Nat.zero_le _, rfl, by simp only [pf_min, undef_bool, str_len, str_eql, str_neq, conv_in, un_not, eq_self, decide_true, decide_false, Bool.not_true, Bool.not_false, argE_0, argE_1, argE_2, argE_3, argE_4, aw_skip, aw_reg, aw_seq, aw_cond, aw_block, aw_exit, aw_ret, inSeq_normal, inSeq_exit, inSeq_ret, inBlk_exit, inBlk_normal, inBlk_ret, OptK_some, OptH_some, OptS_some, kont_app, ar_nil, ar_guard, ar_mv, ar_pick, ar_new, ar_box, ar_build, ar_buildSl, ar_load, ar_store, ar_nilChk, ar_bin, ar_un, ar_conv, ar_convSB, ar_convBS, ar_mkFunc, ar_mkIface, ar_mkSlice, ar_sl, ar_slStr, ar_fieldA, ar_field, ar_idxA, ar_idxArr, ar_idx, ar_idxS, ar_extract, ar_append, ar_len, ar_call, ar_callv, callvP_func, List.nil_append, List.cons_append, List.append_nil, ar_pf, ar_hf, ar_slA, upO_some, upO_none, sX_t, sX_c, sX_f, sXs, sXO, sXP, fin_t, fin_t2, fin_t3, up_same, up_ne, ne_eq, not_false_eq_true, AVal.bool.injEq, decide_eq_true_eq, decide_eq_false_iff_not, Int.ofNat_eq_natCast, Int.reduceNegSucc, Int.cast_ofNat_Int, reduceCtorEq, bin_lss, bin_leq, bin_gtr, bin_geq, bin_eql, bin_neq, bin_add, bin_sub, bin_mul, Bool.not_eq_true', Bool.not_eq_false', Bool.true_eq_false, Bool.false_eq_true, Nat.reduceEqDiff, ↓reduceIte, if_true, if_false, Nat.reduceAdd, Int.reduceEq, Int.reduceLT, Int.reduceLE, g3], by simp only [pf_min, undef_bool, str_len, str_eql, str_neq, conv_in, un_not, eq_self, decide_true, decide_false, Bool.not_true, Bool.not_false, argE_0, argE_1, argE_2, argE_3, argE_4, aw_skip, aw_reg, aw_seq, aw_cond, aw_block, aw_exit, aw_ret, inSeq_normal, inSeq_exit, inSeq_ret, inBlk_exit, inBlk_normal, inBlk_ret, OptK_some, OptH_some, OptS_some, kont_app, ar_nil, ar_guard, ar_mv, ar_pick, ar_new, ar_box, ar_build, ar_buildSl, ar_load, ar_store, ar_nilChk, ar_bin, ar_un, ar_conv, ar_convSB, ar_convBS, ar_mkFunc, ar_mkIface, ar_mkSlice, ar_sl, ar_slStr, ar_fieldA, ar_field, ar_idxA, ar_idxArr, ar_idx, ar_idxS, ar_extract, ar_append, ar_len, ar_call, ar_callv, callvP_func, List.nil_append, List.cons_append, List.append_nil, ar_pf, ar_hf, ar_slA, upO_some, upO_none, sX_t, sX_c, sX_f, sXs, sXO, sXP, fin_t, fin_t2, fin_t3, up_same, up_ne, ne_eq, not_false_eq_true, AVal.bool.injEq, decide_eq_true_eq, decide_eq_false_iff_not, Int.ofNat_eq_natCast, Int.reduceNegSucc, Int.cast_ofNat_Int, reduceCtorEq, bin_lss, bin_leq, bin_gtr, bin_geq, bin_eql, bin_neq, bin_add, bin_sub, bin_mul, Bool.not_eq_true', Bool.not_eq_false', Bool.true_eq_false, Bool.false_eq_true, Nat.reduceEqDiff, ↓reduceIte, if_true, if_false, Nat.reduceAdd, Int.reduceEq, Int.reduceLT, Int.reduceLE]; try rfl, by simp only [pf_min, undef_bool, str_len, str_eql, str_neq, conv_in, un_not, eq_self, decide_true, decide_false, Bool.not_true, Bool.not_false, argE_0, argE_1, argE_2, argE_3, argE_4, aw_skip, aw_reg, aw_seq, aw_cond, aw_block, aw_exit, aw_ret, inSeq_normal, inSeq_exit, inSeq_ret, inBlk_exit, inBlk_normal, inBlk_ret, OptK_some, OptH_some, OptS_some, kont_app, ar_nil, ar_guard, ar_mv, ar_pick, ar_new, ar_box, ar_build, ar_buildSl, ar_load, ar_store, ar_nilChk, ar_bin, ar_un, ar_conv, ar_convSB, ar_convBS, ar_mkFunc, ar_mkIface, ar_mkSlice, ar_sl, ar_slStr, ar_fieldA, ar_field, ar_idxA, ar_idxArr, ar_idx, ar_idxS, ar_extract, ar_append, ar_len, ar_call, ar_callv, callvP_func, List.nil_append, List.cons_append, List.append_nil, ar_pf, ar_hf, ar_slA, upO_some, upO_none, sX_t, sX_c, sX_f, sXs, sXO, sXP, fin_t, fin_t2, fin_t3, up_same, up_ne, ne_eq, not_false_eq_true, AVal.bool.injEq, decide_eq_true_eq, decide_eq_false_iff_not, Int.ofNat_eq_natCast, Int.reduceNegSucc, Int.cast_ofNat_Int, reduceCtorEq, bin_lss, bin_leq, bin_gtr, bin_geq, bin_eql, bin_neq, bin_add, bin_sub, bin_mul, Bool.not_eq_true', Bool.not_eq_false', Bool.true_eq_false, Bool.false_eq_true, Nat.reduceEqDiff, ↓reduceIte, if_true, if_false, Nat.reduceAdd, Int.reduceEq, Int.reduceLT, Int.reduceLE]; try rfl, r1, n1, k1⟩ ?_
  clear g0 g3 g11 g12 r1 n1 k1 T H1
  rintro q T H1 ⟨k, hk, rfl, g3, g5, g22, r1, n1, k1⟩
  by_cases hlt : k < 32
  · have hlt' : (k : Int) < 32 := by omega
    have hb9 := bits_dig hp9 0 k
    have hbl := bits_len l 0 k
    rw [hl] at hbl
    have hbv : (bits l 0 k).1 < 2 ^ 32 := by
      have h1 := bits_val l 0 k
      have h2 := valN_lt hp9
      rw [Nat.zero_mul, Nat.zero_add, hl] at h1
      rw [hl] at h2
      have h3 : 2 ^ k ≤ 2 ^ 32 := Nat.pow_le_pow_right (by omega) hk
      have h4 : (bits l 0 k).1 * 10 ^ 32 < 2 ^ 32 * 10 ^ 32 := by
        calc (bits l 0 k).1 * 10 ^ 32 ≤ 2 ^ k * valN l := by omega
          _ ≤ 2 ^ 32 * valN l := Nat.mul_le_mul_right _ h3
          _ < 2 ^ 32 * 10 ^ 32 := Nat.mul_lt_mul_of_pos_left h2 (by decide)
      exact Nat.lt_of_mul_lt_mul_right h4
    simp only [pf_min, undef_bool, str_len, str_eql, str_neq, conv_in, un_not, eq_self, decide_true, decide_false, Bool.not_true, Bool.not_false, argE_0, argE_1, argE_2, argE_3, argE_4, aw_skip, aw_reg, aw_seq, aw_cond, aw_block, aw_exit, aw_ret, inSeq_normal, inSeq_exit, inSeq_ret, inBlk_exit, inBlk_normal, inBlk_ret, OptK_some, OptH_some, OptS_some, kont_app, ar_nil, ar_guard, ar_mv, ar_pick, ar_new, ar_box, ar_build, ar_buildSl, ar_load, ar_store, ar_nilChk, ar_bin, ar_un, ar_conv, ar_convSB, ar_convBS, ar_mkFunc, ar_mkIface, ar_mkSlice, ar_sl, ar_slStr, ar_fieldA, ar_field, ar_idxA, ar_idxArr, ar_idx, ar_idxS, ar_extract, ar_append, ar_len, ar_call, ar_callv, callvP_func, List.nil_append, List.cons_append, List.append_nil, ar_pf, ar_hf, ar_slA, upO_some, upO_none, sX_t, sX_c, sX_f, sXs, sXO, sXP, fin_t, fin_t2, fin_t3, up_same, up_ne, ne_eq, not_false_eq_true, AVal.bool.injEq, decide_eq_true_eq, decide_eq_false_iff_not, Int.ofNat_eq_natCast, Int.reduceNegSucc, Int.cast_ofNat_Int, reduceCtorEq, bin_lss, bin_leq, bin_gtr, bin_geq, bin_eql, bin_neq, bin_add, bin_sub, bin_mul, Bool.not_eq_true', Bool.not_eq_false', Bool.true_eq_false, Bool.false_eq_true, Nat.reduceEqDiff, ↓reduceIte, if_true, if_false, Nat.reduceAdd, Int.reduceEq, Int.reduceLT, Int.reduceLE, g3, g5, g22, hlt']
    have hbits : bits l 0 (k + 1) = (2 * (bits l 0 k).1 + (dbl (bits l 0 k).2).1, (dbl (bits l 0 k).2).2) := rfl
    generalize hm : (bits l 0 k).2 = m at *
    generalize hout : (bits l 0 k).1 = out at *
    have hov := dbl_over hb9
    refine aw_loop (fun q (T : Env) H' => ∃ j : Nat, j ≤ 32 ∧ j = q ∧ T 3 = cellR b 32 0 ∧ T 5 = .int .i64 (out : Int) ∧ T 22 = .int .i64 (k : Int) ∧ T 6 = .int .u8 ((dbl (m.drop j)).1 : Int) ∧ T 7 = .int .i64 ((j : Int) - 1) ∧ Row H' b (u8s (half m j)) ∧ H'.next = b + 1 ∧ ∀ c, c < b → H'.get c = H.get c) 32
      ⟨32, by omega, rfl, by simp only [pf_min, undef_bool, str_len, str_eql, str_neq, conv_in, un_not, eq_self, decide_true, decide_false, Bool.not_true, Bool.not_false, argE_0, argE_1, argE_2, argE_3, argE_4, aw_skip, aw_reg, aw_seq, aw_cond, aw_block, aw_exit, aw_ret, inSeq_normal, inSeq_exit, inSeq_ret, inBlk_exit, inBlk_normal, inBlk_ret, OptK_some, OptH_some, OptS_some, kont_app, ar_nil, ar_guard, ar_mv, ar_pick, ar_new, ar_box, ar_build, ar_buildSl, ar_load, ar_store, ar_nilChk, ar_bin, ar_un, ar_conv, ar_convSB, ar_convBS, ar_mkFunc, ar_mkIface, ar_mkSlice, ar_sl, ar_slStr, ar_fieldA, ar_field, ar_idxA, ar_idxArr, ar_idx, ar_idxS, ar_extract, ar_append, ar_len, ar_call, ar_callv, callvP_func, List.nil_append, List.cons_append, List.append_nil, ar_pf, ar_hf, ar_slA, upO_some, upO_none, sX_t, sX_c, sX_f, sXs, sXO, sXP, fin_t, fin_t2, fin_t3, up_same, up_ne, ne_eq, not_false_eq_true, AVal.bool.injEq, decide_eq_true_eq, decide_eq_false_iff_not, Int.ofNat_eq_natCast, Int.reduceNegSucc, Int.cast_ofNat_Int, reduceCtorEq, bin_lss, bin_leq, bin_gtr, bin_geq, bin_eql, bin_neq, bin_add, bin_sub, bin_mul, Bool.not_eq_true', Bool.not_eq_false', Bool.true_eq_false, Bool.false_eq_true, Nat.reduceEqDiff, ↓reduceIte, if_true, if_false, Nat.reduceAdd, Int.reduceEq, Int.reduceLT, Int.reduceLE, g3], by simp only [pf_min, undef_bool, str_len, str_eql, str_neq, conv_in, un_not, eq_self, decide_true, decide_false, Bool.not_true, Bool.not_false, argE_0, argE_1, argE_2, argE_3, argE_4, aw_skip, aw_reg, aw_seq, aw_cond, aw_block, aw_exit, aw_ret, inSeq_normal, inSeq_exit, inSeq_ret, inBlk_exit, inBlk_normal, inBlk_ret, OptK_some, OptH_some, OptS_some, kont_app, ar_nil, ar_guard, ar_mv, ar_pick, ar_new, ar_box, ar_build, ar_buildSl, ar_load, ar_store, ar_nilChk, ar_bin, ar_un, ar_conv, ar_convSB, ar_convBS, ar_mkFunc, ar_mkIface, ar_mkSlice, ar_sl, ar_slStr, ar_fieldA, ar_field, ar_idxA, ar_idxArr, ar_idx, ar_idxS, ar_extract, ar_append, ar_len, ar_call, ar_callv, callvP_func, List.nil_append, List.cons_append, List.append_nil, ar_pf, ar_hf, ar_slA, upO_some, upO_none, sX_t, sX_c, sX_f, sXs, sXO, sXP, fin_t, fin_t2, fin_t3, up_same, up_ne, ne_eq, not_false_eq_true, AVal.bool.injEq, decide_eq_true_eq, decide_eq_false_iff_not, Int.ofNat_eq_natCast, Int.reduceNegSucc, Int.cast_ofNat_Int, reduceCtorEq, bin_lss, bin_leq, bin_gtr, bin_geq, bin_eql, bin_neq, bin_add, bin_sub, bin_mul, Bool.not_eq_true', Bool.not_eq_false', Bool.true_eq_false, Bool.false_eq_true, Nat.reduceEqDiff, ↓reduceIte, if_true, if_false, Nat.reduceAdd, Int.reduceEq, Int.reduceLT, Int.reduceLE, g5], by simp only [pf_min, undef_bool, str_len, str_eql, str_neq, conv_in, un_not, eq_self, decide_true, decide_false, Bool.not_true, Bool.not_false, argE_0, argE_1, argE_2, argE_3, argE_4, aw_skip, aw_reg, aw_seq, aw_cond, aw_block, aw_exit, aw_ret, inSeq_normal, inSeq_exit, inSeq_ret, inBlk_exit, inBlk_normal, inBlk_ret, OptK_some, OptH_some, OptS_some, kont_app, ar_nil, ar_guard, ar_mv, ar_pick, ar_new, ar_box, ar_build, ar_buildSl, ar_load, ar_store, ar_nilChk, ar_bin, ar_un, ar_conv, ar_convSB, ar_convBS, ar_mkFunc, ar_mkIface, ar_mkSlice, ar_sl, ar_slStr, ar_fieldA, ar_field, ar_idxA, ar_idxArr, ar_idx, ar_idxS, ar_extract, ar_append, ar_len, ar_call, ar_callv, callvP_func, List.nil_append, List.cons_append, List.append_nil, ar_pf, ar_hf, ar_slA, upO_some, upO_none, sX_t, sX_c, sX_f, sXs, sXO, sXP, fin_t, fin_t2, fin_t3, up_same, up_ne, ne_eq, not_false_eq_true, AVal.bool.injEq, decide_eq_true_eq, decide_eq_false_iff_not, Int.ofNat_eq_natCast, Int.reduceNegSucc, Int.cast_ofNat_Int, reduceCtorEq, bin_lss, bin_leq, bin_gtr, bin_geq, bin_eql, bin_neq, bin_add, bin_sub, bin_mul, Bool.not_eq_true', Bool.not_eq_false', Bool.true_eq_false, Bool.false_eq_true, Nat.reduceEqDiff, ↓reduceIte, if_true, if_false, Nat.reduceAdd, Int.reduceEq, Int.reduceLT, Int.reduceLE, g22], by simp only [pf_min, undef_bool, str_len, str_eql, str_neq, conv_in, un_not, eq_self, decide_true, decide_false, Bool.not_true, Bool.not_false, argE_0, argE_1, argE_2, argE_3, argE_4, aw_skip, aw_reg, aw_seq, aw_cond, aw_block, aw_exit, aw_ret, inSeq_normal, inSeq_exit, inSeq_ret, inBlk_exit, inBlk_normal, inBlk_ret, OptK_some, OptH_some, OptS_some, kont_app, ar_nil, ar_guard, ar_mv, ar_pick, ar_new, ar_box, ar_build, ar_buildSl, ar_load, ar_store, ar_nilChk, ar_bin, ar_un, ar_conv, ar_convSB, ar_convBS, ar_mkFunc, ar_mkIface, ar_mkSlice, ar_sl, ar_slStr, ar_fieldA, ar_field, ar_idxA, ar_idxArr, ar_idx, ar_idxS, ar_extract, ar_append, ar_len, ar_call, ar_callv, callvP_func, List.nil_append, List.cons_append, List.append_nil, ar_pf, ar_hf, ar_slA, upO_some, upO_none, sX_t, sX_c, sX_f, sXs, sXO, sXP, fin_t, fin_t2, fin_t3, up_same, up_ne, ne_eq, not_false_eq_true, AVal.bool.injEq, decide_eq_true_eq, decide_eq_false_iff_not, Int.ofNat_eq_natCast, Int.reduceNegSucc, Int.cast_ofNat_Int, reduceCtorEq, bin_lss, bin_leq, bin_gtr, bin_geq, bin_eql, bin_neq, bin_add, bin_sub, bin_mul, Bool.not_eq_true', Bool.not_eq_false', Bool.true_eq_false, Bool.false_eq_true, Nat.reduceEqDiff, ↓reduceIte, if_true, if_false, Nat.reduceAdd, Int.reduceEq, Int.reduceLT, Int.reduceLE]; rw [List.drop_eq_nil_of_le (by omega)]; rfl, by simp only [pf_min, undef_bool, str_len, str_eql, str_neq, conv_in, un_not, eq_self, decide_true, decide_false, Bool.not_true, Bool.not_false, argE_0, argE_1, argE_2, argE_3, argE_4, aw_skip, aw_reg, aw_seq, aw_cond, aw_block, aw_exit, aw_ret, inSeq_normal, inSeq_exit, inSeq_ret, inBlk_exit, inBlk_normal, inBlk_ret, OptK_some, OptH_some, OptS_some, kont_app, ar_nil, ar_guard, ar_mv, ar_pick, ar_new, ar_box, ar_build, ar_buildSl, ar_load, ar_store, ar_nilChk, ar_bin, ar_un, ar_conv, ar_convSB, ar_convBS, ar_mkFunc, ar_mkIface, ar_mkSlice, ar_sl, ar_slStr, ar_fieldA, ar_field, ar_idxA, ar_idxArr, ar_idx, ar_idxS, ar_extract, ar_append, ar_len, ar_call, ar_callv, callvP_func, List.nil_append, List.cons_append, List.append_nil, ar_pf, ar_hf, ar_slA, upO_some, upO_none, sX_t, sX_c, sX_f, sXs, sXO, sXP, fin_t, fin_t2, fin_t3, up_same, up_ne, ne_eq, not_false_eq_true, AVal.bool.injEq, decide_eq_true_eq, decide_eq_false_iff_not, Int.ofNat_eq_natCast, Int.reduceNegSucc, Int.cast_ofNat_Int, reduceCtorEq, bin_lss, bin_leq, bin_gtr, bin_geq, bin_eql, bin_neq, bin_add, bin_sub, bin_mul, Bool.not_eq_true', Bool.not_eq_false', Bool.true_eq_false, Bool.false_eq_true, Nat.reduceEqDiff, ↓reduceIte, if_true, if_false, Nat.reduceAdd, Int.reduceEq, Int.reduceLT, Int.reduceLE]; try rfl, by rw [← hbl, half_all]; exact r1, n1, k1⟩ ?_
    clear g3 g5 g22 r1 n1 k1 T H1
    rintro q T H1 ⟨j, hj, rfl, g3, g5, g22, g6, g7, r1, n1, k1⟩
    cases j with
    | zero =>
      have c0 : ¬ (0 : Int) ≤ ((0 : Nat) : Int) - 1 := by omega
      rw [List.drop_zero] at g6
      rw [half_zero] at r1
      have hsh : out * 2 ^ 1 < 2 ^ 63 := by omega
      have e1 := bin_shlN (k' := .u64) (a := out) (b := 1) (by omega) hsh
      have e2 := bin_orN (a := out * 2 ^ 1) (b := (dbl m).1) hsh (by omega)
      rw [or_low 1 out (by omega)] at e2
      have hw : IntKind.i64.wrap ((dbl m).1 : Int) = ((dbl m).1 : Int) := wrap64 (by omega) (by omega)
      simp only [Int.cast_ofNat_Int] at e1
      simp only [pf_min, undef_bool, str_len, str_eql, str_neq, conv_in, un_not, eq_self, decide_true, decide_false, Bool.not_true, Bool.not_false, argE_0, argE_1, argE_2, argE_3, argE_4, aw_skip, aw_reg, aw_seq, aw_cond, aw_block, aw_exit, aw_ret, inSeq_normal, inSeq_exit, inSeq_ret, inBlk_exit, inBlk_normal, inBlk_ret, OptK_some, OptH_some, OptS_some, kont_app, ar_nil, ar_guard, ar_mv, ar_pick, ar_new, ar_box, ar_build, ar_buildSl, ar_load, ar_store, ar_nilChk, ar_bin, ar_un, ar_conv, ar_convSB, ar_convBS, ar_mkFunc, ar_mkIface, ar_mkSlice, ar_sl, ar_slStr, ar_fieldA, ar_field, ar_idxA, ar_idxArr, ar_idx, ar_idxS, ar_extract, ar_append, ar_len, ar_call, ar_callv, callvP_func, List.nil_append, List.cons_append, List.append_nil, ar_pf, ar_hf, ar_slA, upO_some, upO_none, sX_t, sX_c, sX_f, sXs, sXO, sXP, fin_t, fin_t2, fin_t3, up_same, up_ne, ne_eq, not_false_eq_true, AVal.bool.injEq, decide_eq_true_eq, decide_eq_false_iff_not, Int.ofNat_eq_natCast, Int.reduceNegSucc, Int.cast_ofNat_Int, reduceCtorEq, bin_lss, bin_leq, bin_gtr, bin_geq, bin_eql, bin_neq, bin_add, bin_sub, bin_mul, Bool.not_eq_true', Bool.not_eq_false', Bool.true_eq_false, Bool.false_eq_true, Nat.reduceEqDiff, ↓reduceIte, if_true, if_false, Nat.reduceAdd, Int.reduceEq, Int.reduceLT, Int.reduceLE, g3, g5, g22, g6, g7, c0, e1, e2, hw, wrap1 k (by omega)]
      refine ⟨_, by omega, k + 1, by omega, rfl, by trivial, ?_, rfl, ?_, n1, k1⟩
      · rw [hbits]; simp only; congr 2; omega
      · rw [hbits]; exact r1
    | succ j =>
      have c0 : (0 : Int) ≤ ((j + 1 : Nat) : Int) - 1 := by omega
      have ej : ((j + 1 : Nat) : Int) - 1 = (j : Int) := by omega
      rw [ej] at g7 c0
      obtain ⟨d, hdd⟩ := isSome_of_lt (l := m) (i := j) (by omega)
      have hd9 := hb9 d (List.mem_of_getElem? hdd)
      have ho := dbl_over (l := m.drop (j + 1)) fun x hx => hb9 x (List.mem_of_mem_drop hx)
      have hset := half_set hdd
      have hdr : dbl (m.drop j) = ((d * 2 + (dbl (m.drop (j + 1))).1) / 10, (d * 2 + (dbl (m.drop (j + 1))).1) % 10 :: (dbl (m.drop (j + 1))).2) := by rw [drop_at hdd]; rfl
      generalize (dbl (m.drop (j + 1))).1 = o at *
      have ia := arr_idx (b := b) (n := 32) (i := j) (by omega) .i64
      have l1 := row_load r1 (n := 32) (by rw [u8s_len, half_len, hbl]) (u8s_get (half_get hdd))
      have w1 : IntKind.u8.wrap ((d : Int) * 2) = ((d * 2 : Nat) : Int) := by rw [wrapU8 (by omega) (by omega)]; omega
      have w2 : IntKind.u8.wrap (((d * 2 : Nat) : Int) + (o : Int)) = ((d * 2 + o : Nat) : Int) := by rw [wrapU8 (by omega) (by omega)]; omega
      have e3 : aBin .rem (.int .u8 ((d * 2 + o : Nat) : Int)) (.int .u8 10) = some (.int .u8 (((d * 2 + o) % 10 : Nat) : Int)) := by
        rw [bin_rem _ _ _ (by omega)]; rfl
      have e4 : aBin .quo (.int .u8 ((d * 2 + o : Nat) : Int)) (.int .u8 10) = some (.int .u8 (((d * 2 + o) / 10 : Nat) : Int)) := by
        rw [bin_quo _ _ _ (by omega)]
        have : ((d * 2 + o : Nat) : Int).tdiv 10 = (((d * 2 + o) / 10 : Nat) : Int) := rfl
        rw [this, wrapU8 (by omega) (by omega)]
      obtain ⟨H2, m2, r2, n2, k2⟩ := row_store r1 (n := 32) (by rw [u8s_len, half_len, hbl]) (i := j) (by omega) (x := .int .u8 (((d * 2 + o) % 10 : Nat) : Int)) rfl
      have hwj : IntKind.i64.wrap ((j : Int) - 1) = (j : Int) - 1 := wrap64 (by omega) (by omega)
      simp only [pf_min, undef_bool, str_len, str_eql, str_neq, conv_in, un_not, eq_self, decide_true, decide_false, Bool.not_true, Bool.not_false, argE_0, argE_1, argE_2, argE_3, argE_4, aw_skip, aw_reg, aw_seq, aw_cond, aw_block, aw_exit, aw_ret, inSeq_normal, inSeq_exit, inSeq_ret, inBlk_exit, inBlk_normal, inBlk_ret, OptK_some, OptH_some, OptS_some, kont_app, ar_nil, ar_guard, ar_mv, ar_pick, ar_new, ar_box, ar_build, ar_buildSl, ar_load, ar_store, ar_nilChk, ar_bin, ar_un, ar_conv, ar_convSB, ar_convBS, ar_mkFunc, ar_mkIface, ar_mkSlice, ar_sl, ar_slStr, ar_fieldA, ar_field, ar_idxA, ar_idxArr, ar_idx, ar_idxS, ar_extract, ar_append, ar_len, ar_call, ar_callv, callvP_func, List.nil_append, List.cons_append, List.append_nil, ar_pf, ar_hf, ar_slA, upO_some, upO_none, sX_t, sX_c, sX_f, sXs, sXO, sXP, fin_t, fin_t2, fin_t3, up_same, up_ne, ne_eq, not_false_eq_true, AVal.bool.injEq, decide_eq_true_eq, decide_eq_false_iff_not, Int.ofNat_eq_natCast, Int.reduceNegSucc, Int.cast_ofNat_Int, reduceCtorEq, bin_lss, bin_leq, bin_gtr, bin_geq, bin_eql, bin_neq, bin_add, bin_sub, bin_mul, Bool.not_eq_true', Bool.not_eq_false', Bool.true_eq_false, Bool.false_eq_true, Nat.reduceEqDiff, ↓reduceIte, if_true, if_false, Nat.reduceAdd, Int.reduceEq, Int.reduceLT, Int.reduceLE, g3, g5, g22, g6, g7, c0, ia, l1, w1, w2, e3, e4, m2, hwj]
      refine ⟨_, Nat.lt_succ_self j, j, by omega, rfl, by trivial, by trivial, by trivial, by rw [hdr], by trivial, ?_, by omega, fun c hc => (k2 c (by omega)).trans (k1 c hc)⟩
      rw [← hset, u8s_set]
      exact r2
  obtain rfl : k = 32 := by omega
  have hlast := bits_frac hp9 0
  rw [Nat.mul_zero, Nat.zero_add] at hlast
  rw [hlast] at g5
  simp only [pf_min, undef_bool, str_len, str_eql, str_neq, conv_in, un_not, eq_self, decide_true, decide_false, Bool.not_true, Bool.not_false, argE_0, argE_1, argE_2, argE_3, argE_4, aw_skip, aw_reg, aw_seq, aw_cond, aw_block, aw_exit, aw_ret, inSeq_normal, inSeq_exit, inSeq_ret, inBlk_exit, inBlk_normal, inBlk_ret, OptK_some, OptH_some, OptS_some, kont_app, ar_nil, ar_guard, ar_mv, ar_pick, ar_new, ar_box, ar_build, ar_buildSl, ar_load, ar_store, ar_nilChk, ar_bin, ar_un, ar_conv, ar_convSB, ar_convBS, ar_mkFunc, ar_mkIface, ar_mkSlice, ar_sl, ar_slStr, ar_fieldA, ar_field, ar_idxA, ar_idxArr, ar_idx, ar_idxS, ar_extract, ar_append, ar_len, ar_call, ar_callv, callvP_func, List.nil_append, List.cons_append, List.append_nil, ar_pf, ar_hf, ar_slA, upO_some, upO_none, sX_t, sX_c, sX_f, sXs, sXO, sXP, fin_t, fin_t2, fin_t3, up_same, up_ne, ne_eq, not_false_eq_true, AVal.bool.injEq, decide_eq_true_eq, decide_eq_false_iff_not, Int.ofNat_eq_natCast, Int.reduceNegSucc, Int.cast_ofNat_Int, reduceCtorEq, bin_lss, bin_leq, bin_gtr, bin_geq, bin_eql, bin_neq, bin_add, bin_sub, bin_mul, Bool.not_eq_true', Bool.not_eq_false', Bool.true_eq_false, Bool.false_eq_true, Nat.reduceEqDiff, ↓reduceIte, if_true, if_false, Nat.reduceAdd, Int.reduceEq, Int.reduceLT, Int.reduceLE, g3, g5, g22, Int.cast_ofNat_Int, Int.lt_irrefl]
  exact ⟨by trivial, ⟨by omega, fun c hc => k1 c (by omega)⟩⟩
end Go.Proofs.Wo
