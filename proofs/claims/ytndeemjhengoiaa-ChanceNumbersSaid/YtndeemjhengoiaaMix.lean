/- The numbers of chance: Mix, its inverse, and what a draw is, in plain Lean; and the contracts of chance.Mix, lightwellref03.Mix, unmix, mixed, both Draws and awake. No conditions but that each number fits its kind. -/
import Derived.Test.YtndeemjhengoiaaRows
import Derived.WalkKit
import Derived.ProofKit
import Derived.OpenShut
import Derived.Lib.Hide
namespace Go.Proofs.Ytndeemjhengoiaa
open Go.ChangeShapes Go.WideShapes Go.ChangeAt Go.RowKit

def xs (s : Nat) (x : BitVec 64) : BitVec 64 := x ^^^ x >>> s
def unxs (s : Nat) (x : BitVec 64) : BitVec 64 := x ^^^ x >>> s ^^^ x >>> (2 * s)
theorem unxs_xs (s : Nat) (hs : 64 ≤ 3 * s) (x : BitVec 64) : unxs s (xs s x) = x := by
  apply BitVec.eq_of_getLsbD_eq
  intro i hi
  have h3 : x.getLsbD (s + (2 * s + i)) = false := BitVec.getLsbD_of_ge x _ (by omega)
  have h2 : s + (s + i) = 2 * s + i := by omega
  simp only [unxs, xs, BitVec.getLsbD_xor, BitVec.getLsbD_ushiftRight, h3, h2]
  cases x.getLsbD i <;> cases x.getLsbD (s + i) <;> cases x.getLsbD (2 * s + i) <;> rfl
theorem xs_unxs (s : Nat) (hs : 64 ≤ 3 * s) (x : BitVec 64) : xs s (unxs s x) = x := by
  apply BitVec.eq_of_getLsbD_eq
  intro i hi
  have h3 : x.getLsbD (2 * s + (s + i)) = false := BitVec.getLsbD_of_ge x _ (by omega)
  have h2 : s + (s + i) = 2 * s + i := by omega
  simp only [unxs, xs, BitVec.getLsbD_xor, BitVec.getLsbD_ushiftRight, h3, h2]
  cases x.getLsbD i <;> cases x.getLsbD (s + i) <;> cases x.getLsbD (2 * s + i) <;> rfl

def mixB (x : BitVec 64) : BitVec 64 := xs 31 (xs 27 (xs 30 x * 13787848793156543929#64) * 10723151780598845931#64)
def unmixB (x : BitVec 64) : BitVec 64 := unxs 30 (unxs 27 (unxs 31 x * 3573116690164977347#64) * 10871156337175269513#64)
theorem unmix_mix (x : BitVec 64) : unmixB (mixB x) = x := by
  unfold unmixB mixB
  rw [unxs_xs 31 (by decide), BitVec.mul_assoc, show (10723151780598845931#64 * 3573116690164977347#64) = 1#64 by decide, BitVec.mul_one,
    unxs_xs 27 (by decide), BitVec.mul_assoc, show (13787848793156543929#64 * 10871156337175269513#64) = 1#64 by decide, BitVec.mul_one,
    unxs_xs 30 (by decide)]
theorem mix_unmix (x : BitVec 64) : mixB (unmixB x) = x := by
  unfold unmixB mixB
  rw [xs_unxs 30 (by decide), BitVec.mul_assoc, show (10871156337175269513#64 * 13787848793156543929#64) = 1#64 by decide, BitVec.mul_one,
    xs_unxs 27 (by decide), BitVec.mul_assoc, show (3573116690164977347#64 * 10723151780598845931#64) = 1#64 by decide, BitVec.mul_one,
    xs_unxs 31 (by decide)]

/-- a number of 64 bits as the model bears it -/
def ofB (b : BitVec 64) : Int := b.toNat
theorem ofB_lo (b : BitVec 64) : 0 ≤ ofB b := by unfold ofB; omega
theorem ofB_hi (b : BitVec 64) : ofB b < 18446744073709551616 := by unfold ofB; have := b.isLt; omega
theorem ofB_inj {a b : BitVec 64} (h : ofB a = ofB b) : a = b := by
  unfold ofB at h; exact BitVec.eq_of_toNat_eq (by omega)
theorem of_ofB (b : BitVec 64) : BitVec.ofInt 64 (ofB b) = b := by unfold ofB; simp
theorem ofB_of {x : Int} (h0 : 0 ≤ x) (h1 : x < 18446744073709551616) : ofB (BitVec.ofInt 64 x) = x := by
  unfold ofB; rw [BitVec.toNat_ofInt]; omega
theorem wrap_u64 (n : Int) : IntKind.u64.wrap n = ofB (BitVec.ofInt 64 n) := by
  unfold ofB
  rw [BitVec.toNat_ofInt]
  simp [IntKind.wrap, IntKind.signed, IntKind.bits]
  omega
theorem bits_xor (a b : BitVec 64) : bits .xor .u64 (ofB a) (ofB b) = ofB (a ^^^ b) := by
  unfold bits
  simp only [IntKind.bits, of_ofB]
  rw [wrap_u64]
  show ofB (BitVec.ofInt 64 (ofB (a ^^^ b))) = _
  rw [of_ofB]
theorem ofInt_mul (a b : BitVec 64) : BitVec.ofInt 64 (ofB a * ofB b) = a * b := by
  apply BitVec.eq_of_toNat_eq
  rw [BitVec.toNat_ofInt, BitVec.toNat_mul]
  unfold ofB
  rw [← Int.natCast_mul]
  omega
theorem ofInt_add (a b : BitVec 64) : BitVec.ofInt 64 (ofB a + ofB b) = a + b := by
  apply BitVec.eq_of_toNat_eq
  rw [BitVec.toNat_ofInt, BitVec.toNat_add]
  unfold ofB
  rw [← Int.natCast_add]
  omega
theorem ofB_shr (a : BitVec 64) (s : Nat) : ofB (a >>> s) = ofB a / (2 ^ s : Nat) := by
  unfold ofB
  rw [BitVec.toNat_ushiftRight, Nat.shiftRight_eq_div_pow]
  rfl
theorem mul13 (a : BitVec 64) : IntKind.u64.wrap (ofB a * 13787848793156543929) = ofB (a * 13787848793156543929#64) := by
  rw [wrap_u64, ← ofInt_mul]; rfl
theorem mul10 (a : BitVec 64) : IntKind.u64.wrap (ofB a * 10723151780598845931) = ofB (a * 10723151780598845931#64) := by
  rw [wrap_u64, ← ofInt_mul]; rfl
theorem mul35 (a : BitVec 64) : IntKind.u64.wrap (ofB a * 3573116690164977347) = ofB (a * 3573116690164977347#64) := by
  rw [wrap_u64, ← ofInt_mul]; rfl
theorem mul108 (a : BitVec 64) : IntKind.u64.wrap (ofB a * 10871156337175269513) = ofB (a * 10871156337175269513#64) := by
  rw [wrap_u64, ← ofInt_mul]; rfl
theorem xor30 (a : BitVec 64) : bits .xor .u64 (ofB a) (ofB a / 1073741824) = ofB (xs 30 a) := by
  rw [show (1073741824 : Int) = ((2 ^ 30 : Nat) : Int) from rfl, ← ofB_shr, bits_xor]; rfl
theorem xor27 (a : BitVec 64) : bits .xor .u64 (ofB a) (ofB a / 134217728) = ofB (xs 27 a) := by
  rw [show (134217728 : Int) = ((2 ^ 27 : Nat) : Int) from rfl, ← ofB_shr, bits_xor]; rfl
theorem xor31 (a : BitVec 64) : bits .xor .u64 (ofB a) (ofB a / 2147483648) = ofB (xs 31 a) := by
  rw [show (2147483648 : Int) = ((2 ^ 31 : Nat) : Int) from rfl, ← ofB_shr, bits_xor]; rfl
theorem un30 (a : BitVec 64) : bits .xor .u64 (ofB (xs 30 a)) (ofB a / 1152921504606846976) = ofB (unxs 30 a) := by
  rw [show (1152921504606846976 : Int) = ((2 ^ 60 : Nat) : Int) from rfl, ← ofB_shr, bits_xor]; rfl
theorem un27 (a : BitVec 64) : bits .xor .u64 (ofB (xs 27 a)) (ofB a / 18014398509481984) = ofB (unxs 27 a) := by
  rw [show (18014398509481984 : Int) = ((2 ^ 54 : Nat) : Int) from rfl, ← ofB_shr, bits_xor]; rfl
theorem un31 (a : BitVec 64) : bits .xor .u64 (ofB (xs 31 a)) (ofB a / 4611686018427387904) = ofB (unxs 31 a) := by
  rw [show (4611686018427387904 : Int) = ((2 ^ 62 : Nat) : Int) from rfl, ← ofB_shr, bits_xor]; rfl

theorem tdiv_u64 (a : BitVec 64) (d : Nat) (hd : 0 < d) : IntKind.u64.wrap ((ofB a).tdiv d) = ofB a / d := by
  have h0 := ofB_lo a
  have h1 := ofB_hi a
  rw [Int.tdiv_eq_ediv_of_nonneg h0, wrap_u64, ofB_of]
  · exact Int.ediv_nonneg h0 (by omega)
  · exact Int.lt_of_le_of_lt (Int.ediv_le_self _ h0) h1
theorem tdiv27 (a : BitVec 64) : IntKind.u64.wrap ((ofB a).tdiv 134217728) = ofB a / 134217728 := tdiv_u64 a 134217728 (by decide)
theorem tdiv31 (a : BitVec 64) : IntKind.u64.wrap ((ofB a).tdiv 2147483648) = ofB a / 2147483648 := tdiv_u64 a 2147483648 (by decide)
theorem grown_trans {a b c : World} (h : Grown a b) (h' : Grown b c) : Grown a c :=
  ⟨World.keptBut_trans h.1 h'.1, fun x => (h'.2.1 x).trans (h.2.1 x), Nat.le_trans h.2.2 h'.2.2⟩
theorem ret_int {k : IntKind} {a b : Int} (h : a = b) : Ending.returned (.int k a) = .returned (.int k b) := by rw [h]

theorem mix_any (a : BitVec 64) (w : World) : Calls Try.prog 11 #[.int .u64 (ofB a)] w fun e w' => e = .returned (.int .u64 (ofB (mixB a))) ∧ w = w' := by
  obtain ⟨x, hx⟩ : ∃ x, ofB a = x := ⟨_, rfl⟩
  have h0 := ofB_lo a
  have h1 := ofB_hi a
  have H := Lib.hid hx
  rw [hx] at h0 h1 ⊢
  clear hx
  go_enter Try.func11, Try.ntmps11
  go_wp2
  go_ret
  refine ⟨ret_int ?_, rfl⟩
  show bits .xor .u64 _ _ = _
  rw [← H.out]
  simp only [xor30, xor27, xor31, mul13, mul10]
  rfl
theorem refmix_any (a : BitVec 64) (w : World) : Calls Try.prog 12 #[.int .u64 (ofB a)] w fun e w' => e = .returned (.int .u64 (ofB (mixB a))) ∧ w = w' := by
  obtain ⟨x, hx⟩ : ∃ x, ofB a = x := ⟨_, rfl⟩
  have h0 := ofB_lo a
  have h1 := ofB_hi a
  have H := Lib.hid hx
  rw [hx] at h0 h1 ⊢
  clear hx
  go_enter Try.func12, Try.ntmps12
  go_wp2
  go_ret
  refine ⟨ret_int ?_, rfl⟩
  show bits .xor .u64 _ _ = _
  rw [← H.out]
  simp only [xor30, mul13, tdiv27, xor27, mul10, tdiv31, xor31]
  rfl
theorem unmix_any (a : BitVec 64) (w : World) : Calls Try.prog 13 #[.int .u64 (ofB a)] w fun e w' => e = .returned (.int .u64 (ofB (unmixB a))) ∧ w = w' := by
  obtain ⟨x, hx⟩ : ∃ x, ofB a = x := ⟨_, rfl⟩
  have h0 := ofB_lo a
  have h1 := ofB_hi a
  have H := Lib.hid hx
  rw [hx] at h0 h1 ⊢
  clear hx
  go_enter Try.func13, Try.ntmps13
  go_wp2
  go_ret
  refine ⟨ret_int ?_, rfl⟩
  show bits .xor .u64 _ _ = _
  rw [← H.out]
  simp only [xor30, xor27, xor31, un30, un27, un31, mul35, mul108]
  rfl
def stepB (x : BitVec 64) (n : Int) : BitVec 64 := mixB (x + BitVec.ofInt 64 n + 11400714819323198485#64)
def mixedB (s : BitVec 64) (l : List Int) : BitVec 64 := l.foldl stepB (mixB (s + 11400714819323198485#64))
theorem add_golden (a : BitVec 64) : IntKind.u64.wrap (ofB a + 11400714819323198485) = ofB (a + 11400714819323198485#64) := by
  rw [wrap_u64, ← ofInt_add]; rfl
theorem add_num (a : BitVec 64) (n : Int) : IntKind.u64.wrap (ofB a + IntKind.u64.wrap n) = ofB (a + BitVec.ofInt 64 n) := by
  rw [wrap_u64, wrap_u64, ofInt_add]
theorem step_any (a : BitVec 64) (n : Int) (w : World) :
    Calls Try.prog 11 #[.int .u64 (IntKind.u64.wrap (IntKind.u64.wrap (ofB a + IntKind.u64.wrap n) + 11400714819323198485))] w fun e w' => e = .returned (.int .u64 (ofB (stepB a n))) ∧ w = w' := by
  rw [add_num, add_golden]; exact mix_any _ w
theorem first_any (a : BitVec 64) (w : World) :
    Calls Try.prog 11 #[.int .u64 (IntKind.u64.wrap (ofB a + 11400714819323198485))] w fun e w' => e = .returned (.int .u64 (ofB (mixB (a + 11400714819323198485#64)))) ∧ w = w' := by
  rw [add_golden]; exact mix_any _ w
theorem rstep_any (a : BitVec 64) (n : Int) (w : World) :
    Calls Try.prog 12 #[.int .u64 (IntKind.u64.wrap (IntKind.u64.wrap (ofB a + IntKind.u64.wrap n) + 11400714819323198485))] w fun e w' => e = .returned (.int .u64 (ofB (stepB a n))) ∧ w = w' := by
  rw [add_num, add_golden]; exact refmix_any _ w
theorem rfirst_any (a : BitVec 64) (w : World) :
    Calls Try.prog 12 #[.int .u64 (IntKind.u64.wrap (ofB a + 11400714819323198485))] w fun e w' => e = .returned (.int .u64 (ofB (mixB (a + 11400714819323198485#64)))) ∧ w = w' := by
  rw [add_golden]; exact refmix_any _ w
theorem take_next (l : List Int) (k : Nat) (h : k < l.length) : l.take (k + 1) = l.take k ++ [l.getD k 0] := by
  rw [List.take_succ_eq_append_getElem h]; simp [h]
theorem mixed_next (s : BitVec 64) (l : List Int) (k : Nat) (h : k < l.length) : mixedB s (l.take (k + 1)) = stepB (mixedB s (l.take k)) (l.getD k 0) := by
  rw [take_next l k h]; simp [mixedB]
set_option maxHeartbeats 400000 in
theorem mixed_any (s : BitVec 64) (l : List Int) (a : Nat) (w : World) (hl : l.length = 3)
    (hc : ∀ k, k < 3 → w.cell? ⟨a, k, none⟩ = some (.int .i64 (l.getD k 0))) :
    Calls Try.prog 24 #[.int .u64 (ofB s), .slice (some ⟨a, 0, none⟩) 3 3] w fun e w' => e = .returned (.int .u64 (ofB (mixedB s l))) ∧ w = w' := by
  have HL := Lib.hid hl
  clear hl
  have HC := Lib.hid hc
  clear hc
  go_enter Try.func24, Try.ntmps24
  go_wp2_with (go_at_call 11; refine (first_any _ _).mono ?_; rintro e w' ⟨rfl, rfl⟩)
  go_loop [5, 7, 13] (fun x _ i => ∃ k : Nat, k ≤ 3 ∧ i = .int .i64 k ∧ x = .int .u64 (ofB (mixedB s (l.take k)))) (fun _ _ i => 3 - (intOf i).toNat)
  case atStart => exact ⟨0, Nat.zero_le _, rfl, rfl⟩
  case round =>
    obtain ⟨k, hk, rfl, rfl⟩ := hrel
    by_cases hlt : k < 3
    · have h := HC.out k hlt
      have HN := Lib.hid (mixed_next s l k (by rw [HL.out]; exact hlt))
      go_wp2_with (go_at_call 11; refine (step_any _ _ _).mono ?_; rintro e w' ⟨rfl, rfl⟩)
      go_round
      case rel => exact ⟨k + 1, by omega, by go_num, by rw [HN.out]; simp⟩
      case measure => simp [intOf]; omega
    · obtain rfl : k = 3 := by omega
      go_wp2
      go_ret
      refine ⟨?_, rfl⟩
      rw [List.take_of_length_le (by rw [HL.out]; exact Nat.le_refl _)]
      rfl
def drawB (s : BitVec 64) (p m d : Int) : BitVec 64 := stepB (stepB (stepB (mixB (s + 11400714819323198485#64)) p) m) d
def drawI (s : BitVec 64) (p m d : Int) : Int := ofB (drawB s p m d) / 4294967296
theorem drawI_lo (s : BitVec 64) (p m d : Int) : 0 ≤ drawI s p m d := by unfold drawI; have := ofB_lo (drawB s p m d); omega
theorem drawI_hi (s : BitVec 64) (p m d : Int) : drawI s p m d < 4294967296 := by unfold drawI; have := ofB_hi (drawB s p m d); omega
set_option maxHeartbeats 400000 in
theorem draw_any (s : BitVec 64) (p m d : Int) (w : World) :
    Calls Try.prog 8 #[.int .u64 (ofB s), .int .i64 p, .int .i64 m, .int .i64 d] w fun e w' => e = .returned (.int .i64 (drawI s p m d)) ∧ Grown w w' := by
  obtain ⟨x, hx⟩ : ∃ x, ofB s = x := ⟨_, rfl⟩
  obtain ⟨y, hy⟩ : ∃ y, ofB (drawB s p m d) = y := ⟨_, rfl⟩
  have y0 := ofB_lo (drawB s p m d)
  have y1 := ofB_hi (drawB s p m d)
  rw [hy] at y0 y1
  have HX := Lib.hid hx
  have HY := Lib.hid hy
  have hmx : ∀ W : World, (∀ k, k < 3 → W.cell? ⟨w.heap.size, k, none⟩ = some (.int .i64 ([p, m, d].getD k 0))) →
      Calls Try.prog 24 #[.int .u64 x, .slice (some ⟨w.heap.size, 0, none⟩) 3 3] W fun e w' => e = .returned (.int .u64 y) ∧ W = w' := by
    intro W hW
    rw [← HX.out, ← HY.out]
    exact mixed_any s [p, m, d] _ W rfl hW
  rw [hx]
  have hD : drawI s p m d = y / 4294967296 := by unfold drawI; rw [hy]
  rw [hD]
  clear hD hx hy
  have HM := Lib.hid hmx
  clear hmx
  go_enter Try.func8, Try.ntmps8
  go_wp2_with fail
  refine (HM.out _ ?hc).mono ?h2
  case hc => intro k hk; match k, hk with | 0, _ => simp | 1, _ => simp | 2, _ => simp
  case h2 =>
    rintro e w' ⟨rfl, rfl⟩
    go_wp2
    go_ret
    exact ⟨rfl, by repeat (first | exact Grown.refl _ | apply Grown.drew | apply Grown.alloc)⟩
set_option maxHeartbeats 400000 in
theorem refdraw_any (s : BitVec 64) (p m d : Int) (w : World) :
    Calls Try.prog 9 #[.int .u64 (ofB s), .int .i64 p, .int .i64 m, .int .i64 d] w fun e w' => e = .returned (.int .i64 (drawI s p m d)) ∧ w = w' := by
  go_enter Try.func9, Try.ntmps9
  go_wp2_with fail
  refine (rfirst_any _ _).mono ?_
  rintro e w' ⟨rfl, rfl⟩
  obtain ⟨a1, h1⟩ : ∃ a1, mixB (s + 11400714819323198485#64) = a1 := ⟨_, rfl⟩
  rw [h1]
  have H1 := Lib.hid h1; clear h1
  go_wp2_with fail
  refine (rstep_any _ _ _).mono ?_
  rintro e w' ⟨rfl, rfl⟩
  obtain ⟨a2, h2⟩ : ∃ a2, stepB a1 p = a2 := ⟨_, rfl⟩
  rw [h2]
  have H2 := Lib.hid h2; clear h2
  go_wp2_with fail
  refine (rstep_any _ _ _).mono ?_
  rintro e w' ⟨rfl, rfl⟩
  obtain ⟨a3, h3⟩ : ∃ a3, stepB a2 m = a3 := ⟨_, rfl⟩
  rw [h3]
  have H3 := Lib.hid h3; clear h3
  go_wp2_with fail
  refine (rstep_any _ _ _).mono ?_
  rintro e w' ⟨rfl, rfl⟩
  obtain ⟨y, hy⟩ : ∃ y, ofB (stepB a3 d) = y := ⟨_, rfl⟩
  have y0 := ofB_lo (stepB a3 d)
  have y1 := ofB_hi (stepB a3 d)
  rw [hy] at y0 y1 ⊢
  have HY := Lib.hid hy; clear hy
  go_wp2
  go_ret
  refine ⟨ret_int ?_, rfl⟩
  unfold drawI drawB
  rw [H1.out, H2.out, H3.out, HY.out]
theorem ofB_ofNat (n : Nat) (h : n < 18446744073709551616) : ofB (BitVec.ofNat 64 n) = (n : Int) := by
  unfold ofB; rw [BitVec.toNat_ofNat, Nat.mod_eq_of_lt h]
theorem mix_0 (w : World) : Calls Try.prog 11 #[.int .u64 0] w fun e w' => e = .returned (.int .u64 0) ∧ w = w' := by
  have h := mix_any 0#64 w
  rw [show ofB 0#64 = 0 by decide, show ofB (mixB 0#64) = 0 by decide +kernel] at h
  exact h
theorem mix_1 (w : World) : Calls Try.prog 11 #[.int .u64 1] w fun e w' => e = .returned (.int .u64 6238072747940578789) ∧ w = w' := by
  have h := mix_any 1#64 w
  rw [show ofB 1#64 = 1 by decide, show ofB (mixB 1#64) = 6238072747940578789 by decide +kernel] at h
  exact h
theorem draw_1 (w : World) : Calls Try.prog 8 #[.int .u64 1, .int .i64 2, .int .i64 3, .int .i64 4] w fun e w' => e = .returned (.int .i64 (drawI 1#64 2 3 4)) ∧ Grown w w' := by
  have h := draw_any 1#64 2 3 4 w
  rw [show ofB 1#64 = 1 by decide] at h
  exact h
theorem refdraw_1 (w : World) : Calls Try.prog 9 #[.int .u64 1, .int .i64 2, .int .i64 3, .int .i64 4] w fun e w' => e = .returned (.int .i64 (drawI 1#64 2 3 4)) ∧ w = w' := by
  have h := refdraw_any 1#64 2 3 4 w
  rw [show ofB 1#64 = 1 by decide] at h
  exact h
theorem draw_1_val : drawI 1#64 2 3 4 ≠ 0 := by decide +kernel
set_option maxHeartbeats 400000 in
theorem awake_any (w : World) : Calls Try.prog 10 #[] w fun e w' => e = .returned (.bool true) ∧ Grown w w' := by
  obtain ⟨d, hd⟩ : ∃ d, drawI 1#64 2 3 4 = d := ⟨_, rfl⟩
  have hne := draw_1_val
  rw [hd] at hne
  have hd1 : (d != 0) = true := by simpa using hne
  have hd2 : (d == d) = true := by simp
  have D := draw_1
  have E := refdraw_1
  rw [hd] at D E
  have HD := Lib.hid D
  have HE := Lib.hid E
  clear D E hd
  go_enter Try.func10, Try.ntmps10
  go_wp2_with fail
  refine (mix_0 _).mono ?_
  rintro e w' ⟨rfl, rfl⟩
  go_wp2_with fail
  refine (mix_1 _).mono ?_
  rintro e w' ⟨rfl, rfl⟩
  go_wp2_with fail
  refine (HD.out _).mono ?_
  rintro e w1 ⟨rfl, hg1⟩
  go_wp2_with fail
  refine (HE.out _).mono ?_
  rintro e w2 ⟨rfl, rfl⟩
  go_wp2_with fail
  refine (HD.out _).mono ?_
  rintro e w2 ⟨rfl, hg2⟩
  go_wp2_with fail
  go_ret
  exact ⟨rfl, grown_trans hg1 hg2⟩
end Go.Proofs.Ytndeemjhengoiaa
