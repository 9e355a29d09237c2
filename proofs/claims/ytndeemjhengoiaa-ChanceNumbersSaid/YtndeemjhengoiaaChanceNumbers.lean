/- ChanceNumbers: the law returns true. No condition (it has no parameter). -/
import Derived.Test.YtndeemjhengoiaaRows
import Derived.WalkKit
import Derived.ProofKit
import Derived.OpenShut
import Derived.Test.YtndeemjhengoiaaMix
namespace Go.Proofs.Ytndeemjhengoiaa.chanceNumbers
open Go.ChangeShapes Go.WideShapes Go.ChangeAt Go.RowKit
set_option linter.unusedVariables false      -- a walk need not use every 'w<i>' (that an integer argument fits its kind)

theorem own : ownKnob Try.prog.godebug = none := by kernel_rfl


def pdv (p s : Nat) : Int := drawI 7#64 (p : Int) (s : Int) 0
/-- one row of sixteen samples, laid upon what there is -/
def plowRow (p : Nat) (a : Int) : Nat → Int
  | 0 => a
  | s + 1 => plowRow p a s + (if pdv p s < 2147483648 then 1 else 0)
def psumRow (p : Nat) (a : Int) : Nat → Int
  | 0 => a
  | s + 1 => psumRow p a s + pdv p s / 1024
def plowOf : Nat → Int
  | 0 => 0
  | p + 1 => plowRow p (plowOf p) 16
def psumOf : Nat → Int
  | 0 => 0
  | p + 1 => psumRow p (psumOf p) 16
theorem pdv_lo (p s : Nat) : 0 ≤ pdv p s := drawI_lo _ _ _ _
theorem pdv_hi (p s : Nat) : pdv p s < 4294967296 := drawI_hi _ _ _ _
theorem plowRow_bd (p : Nat) (a : Int) : ∀ s, a ≤ plowRow p a s ∧ plowRow p a s ≤ a + s
  | 0 => by simp [plowRow]
  | s + 1 => by have := plowRow_bd p a s; simp only [plowRow]; split <;> omega
theorem psumRow_bd (p : Nat) (a : Int) : ∀ s : Nat, a ≤ psumRow p a s ∧ psumRow p a s ≤ a + s * 4194304
  | 0 => by simp [psumRow]
  | s + 1 => by have := psumRow_bd p a s; have := pdv_lo p s; have := pdv_hi p s; simp only [psumRow]; omega
theorem plowOf_bd : ∀ p : Nat, 0 ≤ plowOf p ∧ plowOf p ≤ p * 16
  | 0 => by simp [plowOf]
  | p + 1 => by have := plowOf_bd p; have := plowRow_bd p (plowOf p) 16; simp only [plowOf]; omega
theorem psumOf_bd : ∀ p : Nat, 0 ≤ psumOf p ∧ psumOf p ≤ p * 67108864
  | 0 => by simp [psumOf]
  | p + 1 => by have := psumOf_bd p; have := psumRow_bd p (psumOf p) 16; simp only [psumOf]; omega
theorem low_end : 400 < plowOf 64 ∧ plowOf 64 < 624 := by decide +kernel
theorem sum_end : 1717986918 < psumOf 64 ∧ psumOf 64 < 2576980377 := by decide +kernel
theorem draw_dv (p s : Nat) (w : World) : Calls Try.prog 8 #[.int .u64 7, .int .i64 p, .int .i64 s, .int .i64 0] w fun e w' => e = .returned (.int .i64 (pdv p s)) ∧ Grown w w' := by
  have h := draw_any 7#64 p s 0 w
  rw [show ofB 7#64 = 7 by decide] at h
  exact h
theorem draw_end (w : World) : Calls Try.prog 8 #[.int .u64 18446744073709551615, .int .i64 (-1), .int .i64 (-9223372036854775808), .int .i64 9223372036854775807] w
    fun e w' => e = .returned (.int .i64 (drawI (BitVec.allOnes 64) (-1) (-9223372036854775808) 9223372036854775807)) ∧ Grown w w' := by
  have h := draw_any (BitVec.allOnes 64) (-1) (-9223372036854775808) 9223372036854775807 w
  rw [show ofB (BitVec.allOnes 64) = 18446744073709551615 by decide +kernel] at h
  exact h
theorem refdraw_end (w : World) : Calls Try.prog 9 #[.int .u64 18446744073709551615, .int .i64 (-1), .int .i64 (-9223372036854775808), .int .i64 9223372036854775807] w
    fun e w' => e = .returned (.int .i64 (drawI (BitVec.allOnes 64) (-1) (-9223372036854775808) 9223372036854775807)) ∧ w = w' := by
  have h := refdraw_any (BitVec.allOnes 64) (-1) (-9223372036854775808) 9223372036854775807 w
  rw [show ofB (BitVec.allOnes 64) = 18446744073709551615 by decide +kernel] at h
  exact h

/-- the law's numbers, with what the walk asks of them; the walk takes them as unknowns -/
structure Nums where
  dv : Nat → Nat → Int
  lowOf : Nat → Int
  sumOf : Nat → Int
  lowRow : Nat → Int → Nat → Int
  sumRow : Nat → Int → Nat → Int
  dv_lo : ∀ p s, 0 ≤ dv p s
  dv_hi : ∀ p s, dv p s < 4294967296
  low0 : lowOf 0 = 0
  sum0 : sumOf 0 = 0
  lowS : ∀ k, lowOf (k + 1) = lowRow k (lowOf k) 16
  sumS : ∀ k, sumOf (k + 1) = sumRow k (sumOf k) 16
  lowR0 : ∀ k a, lowRow k a 0 = a
  sumR0 : ∀ k a, sumRow k a 0 = a
  lowRS : ∀ k a j, lowRow k a (j + 1) = lowRow k a j + (if dv k j < 2147483648 then 1 else 0)
  sumRS : ∀ k a j, sumRow k a (j + 1) = sumRow k a j + dv k j / 1024
  lowRow_bd : ∀ (p : Nat) (a : Int) (s : Nat), a ≤ lowRow p a s ∧ lowRow p a s ≤ a + s
  sumRow_bd : ∀ (p : Nat) (a : Int) (s : Nat), a ≤ sumRow p a s ∧ sumRow p a s ≤ a + s * 4194304
  lowOf_bd : ∀ p : Nat, 0 ≤ lowOf p ∧ lowOf p ≤ p * 16
  sumOf_bd : ∀ p : Nat, 0 ≤ sumOf p ∧ sumOf p ≤ p * 67108864
  low_end : 400 < lowOf 64 ∧ lowOf 64 < 624
  sum_end : 1717986918 < sumOf 64 ∧ sumOf 64 < 2576980377
  draw : ∀ (p s : Nat) (w : World), Calls Try.prog 8 #[.int .u64 7, .int .i64 p, .int .i64 s, .int .i64 0] w fun e w' => e = .returned (.int .i64 (dv p s)) ∧ Grown w w'
  ends : Int
  drawE : ∀ w : World, Calls Try.prog 8 #[.int .u64 18446744073709551615, .int .i64 (-1), .int .i64 (-9223372036854775808), .int .i64 9223372036854775807] w
    fun e w' => e = .returned (.int .i64 ends) ∧ Grown w w'
  refE : ∀ w : World, Calls Try.prog 9 #[.int .u64 18446744073709551615, .int .i64 (-1), .int .i64 (-9223372036854775808), .int .i64 9223372036854775807] w
    fun e w' => e = .returned (.int .i64 ends) ∧ w = w'
theorem nums : Nonempty Nums :=
  ⟨{ dv := pdv, lowOf := plowOf, sumOf := psumOf, lowRow := plowRow, sumRow := psumRow, dv_lo := pdv_lo, dv_hi := pdv_hi, low0 := rfl, sum0 := rfl,
     lowS := fun _ => rfl, sumS := fun _ => rfl, lowR0 := fun _ _ => rfl, sumR0 := fun _ _ => rfl, lowRS := fun _ _ _ => rfl, sumRS := fun _ _ _ => rfl,
     lowRow_bd := plowRow_bd, sumRow_bd := psumRow_bd, lowOf_bd := plowOf_bd, sumOf_bd := psumOf_bd, low_end := low_end, sum_end := sum_end,
     draw := draw_dv, ends := _, drawE := draw_end, refE := refdraw_end }⟩
/-! ### STEP 1: THE WALK: the Go text returns true. 'Grown w w'': the world has at most new blocks (Derived/RowKit3.lean). Part the cases AHEAD of 'go_enter' where a test parts the walk; take each callee by a contract of your own. -/
theorem walk  (w : World) :
    Calls Try.prog 3 #[] w fun e w' => e = .returned (.bool true) ∧ Grown w w' := by
  obtain ⟨N⟩ := nums
  go_enter Try.func3, Try.ntmps3
  go_wp2
  go_loopw [1, 2, 3, 4, 5] (fun low sum p _ _ wr => ∃ k : Nat, k ≤ 64 ∧ p = .int .i64 k ∧ low = .int .i64 (N.lowOf k) ∧ sum = .int .i64 (N.sumOf k) ∧ Grown w wr) (fun _ _ p _ _ _ => 64 - (intOf p).toNat)
  case atStart => exact ⟨0, Nat.zero_le _, rfl, by rw [N.low0], by rw [N.sum0], Grown.refl _⟩
  case round =>
    obtain ⟨k, hk, rfl, rfl, rfl, hg⟩ := hrel
    by_cases hlt : k < 64
    · obtain ⟨lo0, lo1⟩ := N.lowOf_bd k
      obtain ⟨su0, su1⟩ := N.sumOf_bd k
      have LN := Lib.hid (N.lowS k)
      have SN := Lib.hid (N.sumS k)
      generalize N.lowOf k = la at lo0 lo1 LN ⊢
      generalize N.sumOf k = sa at su0 su1 SN ⊢
      have hkd : decide ((k : Int) < 64) = true := by simp; omega
      go_wp2_with fail
      obtain ⟨wo, rfl⟩ : ∃ wo : World, wo = wr := ⟨_, rfl⟩
      go_loopw [1, 2, 4, 5] (fun low sum s _ wi => ∃ j : Nat, j ≤ 16 ∧ s = .int .i64 j ∧ low = .int .i64 (N.lowRow k la j) ∧ sum = .int .i64 (N.sumRow k sa j) ∧ Grown w wi) (fun _ _ s _ _ => 16 - (intOf s).toNat)
      case atStart => exact ⟨0, Nat.zero_le _, rfl, by rw [N.lowR0], by rw [N.sumR0], hg⟩
      case round =>
        obtain ⟨j, hj, rfl, rfl, rfl, hgi⟩ := hrel
        by_cases hlj : j < 16
        · have hjd : decide ((j : Int) < 16) = true := by simp; omega
          have d0 := N.dv_lo k j
          have d1 := N.dv_hi k j
          obtain ⟨b0, b1⟩ := N.lowRow_bd k la j
          obtain ⟨c0, c1⟩ := N.sumRow_bd k sa j
          have LR := Lib.hid (N.lowRS k la j)
          have SR := Lib.hid (N.sumRS k sa j)
          generalize N.lowRow k la j = lj at b0 b1 LR ⊢
          generalize N.sumRow k sa j = sj at c0 c1 SR ⊢
          go_wp2_with fail
          refine (N.draw k j _).mono ?_
          rintro e w1 ⟨rfl, hg1⟩
          have hgn := grown_trans hgi hg1
          generalize N.dv k j = dj at d0 d1 LR SR ⊢
          by_cases hd : dj < 2147483648
          · go_wp2_with fail
            go_roundw
            case rel => exact ⟨j + 1, by omega, by go_num, by rw [LR.out, if_pos hd], by rw [SR.out], hgn⟩
            case measure => simp [intOf]; omega
          · go_wp2_with fail
            go_roundw
            case rel => exact ⟨j + 1, by omega, by go_num, by rw [LR.out, if_neg (by omega), Int.add_zero], by rw [SR.out], hgn⟩
            case measure => simp [intOf]; omega
        · obtain rfl : j = 16 := by omega
          go_wp2_with fail
          go_roundw
          case rel => exact ⟨k + 1, by omega, by go_num, by rw [LN.out], by rw [SN.out], hgi⟩
          case measure => simp [intOf]; omega
    · obtain rfl : k = 64 := by omega
      obtain ⟨le0, le1⟩ := N.low_end
      obtain ⟨se0, se1⟩ := N.sum_end
      generalize N.lowOf 64 = la at le0 le1 ⊢
      generalize N.sumOf 64 = sa at se0 se1 ⊢
      go_wp2_with fail
      refine (N.drawE _).mono ?_
      rintro e w1 ⟨rfl, hg1⟩
      go_wp2_with fail
      refine (N.refE _).mono ?_
      rintro e w2 ⟨rfl, rfl⟩
      go_wp2_with fail
      refine (awake_any _).mono ?_
      rintro e w2 ⟨rfl, hg2⟩
      go_wp2_with fail
      go_ret
      exact ⟨rfl, grown_trans hg (grown_trans hg1 hg2)⟩

/-! ### THE ROW's STEP: WRITTEN OUT: LEAVE IT -/
set_option maxRecDepth 100000 in
theorem lifted (os : Os) (started : os.Started) (H : Type) (enc : TypeId × Value → H) :
    ReturnsInHanded {} Try.checked os 3 .any (Rows.chanceNumbersSpec.pre6 enc Try.prog Try.f3 Rows.chanceNumbersRow.domain false) (Rows.chanceNumbersSpec.post enc Try.prog Try.f3 false true false false) := by
  refine returnsInHanded_of_change (C := Try.checked) own started (by kernel_rfl) Try.func3
    (ChangeSpec.witness6 (enc := enc) (C := Try.checked) false ⟨#[], #[], []⟩ 8 (by kernel_rfl) (by kernel_rfl) (by kernel_rfl) (by kernel_rfl)) ?_
  intro W base args ds gs before hval0 hW hcnd _
  have hval : ∀ (j : Nat) t v, Try.f3.params[j]? = some t → args[j]? = some v → Value.okWide Try.prog W .any base t v := hval0
  have hW' := hW
  obtain ⟨p, q, hA0, hV, rfl, hfz, hnd⟩ := hW
  have hA : DataW.TrodAll enc Try.prog W 0 (fun _ => true) true Try.f3.params.toList args.toList ds p := hA0
  rw [Try.params3] at hA hval
  obtain ⟨rfl, rfl, rfl⟩ := trodAll_none hA
  obtain ⟨rfl, rfl⟩ := trodVars_none hV
  clear hA0 hval0
  simp only [List.append_nil] at hW'
  refine (walk  W).mono fun e W' ⟨he, hg⟩ => ?_
  subst he
  exact ⟨_, rfl, post_of_same (pa := []) (pv := []) hW' (fun _ _ _ => (trodAll_cons_mk (shut_bool Try.underlying4 _) trodAll_mk0)) (fun sp _ => rfl) (fun _ _ => rfl) rfl
    (hg.frame _) hg.2.1 (ok_one (by kernel_rfl) rfl (okWide_bool_mk Try.underlying4 _))⟩

theorem over : Rows.chanceNumbersRow.holds Try.pinned (OpenSpec.ofChange Rows.chanceNumbersSpec) :=
  OpenClaim.holds_of_wide 3 Try.f3 rfl rfl rfl rfl rfl rfl rfl ⟨rfl, rfl, rfl, rfl, rfl⟩ rfl rfl rfl rfl rfl (by kernel_rfl) Try.func3 (by kernel_rfl)
    (of_decide_eq_true (by kernel_rfl)) (by unfold Func.isWrapper; first | (rw [if_pos (by decide +kernel)]; kernel_rfl) | (rw [if_neg (by decide +kernel)]; exact ⟨rfl, rfl⟩))
    (fun os started H enc _ => lifted os started H enc)

/-- ████ THE STATEMENT ████ -/
theorem proved : Rows.ChanceNumbersSaid :=
  over
#print axioms proved
end Go.Proofs.Ytndeemjhengoiaa.chanceNumbers
