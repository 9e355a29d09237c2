/- FrameShares: for every input the law returns true and its arguments read as before. No condition. -/
import Derived.Test.YtndeemjhengoiaaRows
import Derived.Test.YtndeemjhengoiaaFr6
import Derived.Test.YtndeemjhengoiaaS8
import Derived.Test.YtndeemjhengoiaaTFrame
import Derived.Test.YtndeemjhengoiaaL1
namespace Go.Proofs.Ytndeemjhengoiaa.frameShares
open Go.ChangeShapes Go.WideShapes Go.ChangeAt Go.RowKit
open Go.Abs (VRels VRel law_post)
open Go.Abs.S (arg_ints arg_sized absW_rel rel_world natB natB_ok ints)
open Go.Abs.F (fcall f_closed h0 yesT)
open Go.Abs.TFrame (tab tab_ok)
open Go.Proofs.Fr (law_shares)
set_option linter.unusedVariables false

theorem own : ownKnob Try.prog.godebug = none := by kernel_rfl
theorem run : fcall tab 3000 22 [] h0 yesT = .yes := by kernel_rfl
theorem awake (w : World) : Calls Try.prog 22 #[] w fun e w' => e = .returned (.bool true) ∧ Below w.heap.size w w' :=
  f_closed (by kernel_rfl) Go.Abs.noNat_ok tab_ok (args := []) (fun ρ => by simp [VRels]) run w
theorem nat : Go.Abs.NatOK Try.prog (natB 22) := natB_ok (by kernel_rfl) awake
/-! ### THE ROW's STEP -/
set_option maxRecDepth 100000 in
theorem lifted (os : Os) (started : os.Started) (H : Type) (enc : TypeId × Value → H) :
    ReturnsInHanded {} Try.checked os 7 .any (Rows.frameSharesSpec.pre6 enc Try.prog Try.f7 Rows.frameSharesRow.domain false) (Rows.frameSharesSpec.post enc Try.prog Try.f7 false true false false) := by
  refine returnsInHanded_of_change_sized (C := Try.checked) own started (by kernel_rfl) Try.func7
    (ChangeSpec.witness6 (enc := enc) (C := Try.checked) false ⟨#[], #[.slice none 0 0, .int .i64 0], []⟩ 8 (by kernel_rfl) (by kernel_rfl) (by kernel_rfl) (by kernel_rfl)) ?_
  intro W base args ds gs before hval0 hW hcnd hsz _
  have hval : ∀ (j : Nat) t v, Try.f7.params[j]? = some t → args[j]? = some v → Value.okWide Try.prog W .any base t v := hval0
  have hW' := hW
  obtain ⟨p, q, hA0, hV, rfl, hfz, hnd⟩ := hW
  have hA : DataW.TrodAll enc Try.prog W 0 (fun _ => true) true Try.f7.params.toList args.toList ds p := hA0
  have hsz' : (DataW.weightsEach Try.prog (Try.f7.params.toList ++ Rows.frameSharesSpec.plain.varTypes Try.prog) (ds ++ gs)).all (· ≤ reachBytes) = true := hsz
  rw [Try.params7] at hA hval hsz'
  obtain ⟨v0, vs0, d0, ds0, p0, q0, hargs, rfl, rfl, t0, r0⟩ := trodAll_cons hA
  obtain ⟨v1, vs1, d1, ds1, p1, q1, rfl, rfl, rfl, t1, r1⟩ := trodAll_cons r0
  obtain ⟨rfl, rfl, rfl⟩ := trodAll_nil r1
  obtain rfl : args = #[v0, v1] := by cases args; simp_all
  obtain ⟨rfl, rfl⟩ := trodVars_none hV
  have k0 := hval 0 _ v0 rfl rfl
  have k1 := hval 1 _ v1 rfl rfl
  obtain ⟨l, al, dl⟩ := arg_ints Try.underlying28 Try.underlying3 (by kernel_rfl) k0 t0
  obtain ⟨x, rfl⟩ := okWide_int Try.underlying3 k1
  have sl := arg_sized hsz' (j := 0) rfl rfl Try.underlying28 (by kernel_rfl) dl
  have hrun := (law_shares (x := x) al sl).calls (by kernel_rfl) nat (rel_world W) (vs := #[v0, .int .i64 x])
    (by simp only [VRels]; exact ⟨_, _, rfl, absW_rel W v0, _, _, rfl, by simp [VRel], rfl⟩)
  refine hrun.mono fun e W' hx => ?_
  obtain ⟨ρ', v, H', u, _, rfl, rfl, R, hu⟩ := hx
  simp only [VRel] at hu
  subst hu
  exact ⟨_, rfl, law_post (tb := 4) (by kernel_rfl) (by kernel_rfl) (by kernel_rfl) (by kernel_rfl) rfl hW' rfl (by kernel_rfl) (by kernel_rfl) R.below⟩

theorem over : Rows.frameSharesRow.holds Try.pinned (OpenSpec.ofChange Rows.frameSharesSpec) :=
  OpenClaim.holds_of_wide 7 Try.f7 rfl rfl rfl rfl rfl rfl rfl ⟨rfl, rfl, rfl, rfl, rfl⟩ rfl rfl rfl rfl rfl (by kernel_rfl) Try.func7 (by kernel_rfl)
    (of_decide_eq_true (by kernel_rfl)) (by unfold Func.isWrapper; first | (rw [if_pos (by decide +kernel)]; kernel_rfl) | (rw [if_neg (by decide +kernel)]; exact ⟨rfl, rfl⟩))
    (fun os started H enc _ => lifted os started H enc)
theorem proved : Rows.FrameSharesSaid :=
  over
#print axioms proved
end Go.Proofs.Ytndeemjhengoiaa.frameShares
