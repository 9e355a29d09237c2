/- ImageNone: for every input the law returns true and its arguments read as before. No condition. -/
import Derived.Test.YtakecdepecjehaaGreatRows
import Derived.Test.YtakecdepecjehaaGreatP12
set_option linter.unusedSimpArgs false
set_option linter.unusedVariables false
set_option linter.unnecessarySimpa false
namespace Go.Proofs.YtakecdepecjehaaGreat.imageNone
open Go.ChangeShapes Go.WideShapes Go.ChangeAt Go.RowKit
open Go.Abs (VRels VRel opq law_post)
open Go.Abs.F (fcall f_closed h0 yesT)
open Go.Abs.TImageNone (tab tab_ok)
set_option linter.unusedVariables false
set_option linter.constructorNameAsVariable false

theorem own : ownKnob Tryz.prog.godebug = none := by kernel_rfl
theorem run (v0 : Value) (v1 : Value) : fcall tab 3000 4 [.val v0, .val v1] h0 yesT = .yes := by kernel_rfl
theorem walk (v0 : Value) (v1 : Value) (h0 : opq v0 = true) (h1 : opq v1 = true) (w : World) : Calls Tryz.prog 4 #[v0, v1] w fun e w' => e = .returned (.bool true) ∧ Below w.heap.size w w' :=
  f_closed (by kernel_rfl) Go.Abs.noNat_ok tab_ok (args := [.val v0, .val v1]) (fun ρ => by simp [VRels, VRel, h0, h1]) (run v0 v1) w

/-! ### THE ROW's STEP -/
set_option maxRecDepth 100000 in
theorem lifted (os : Os) (started : os.Started) (H : Type) (enc : TypeId × Value → H) :
    ReturnsInHanded {} Tryz.checked os 4 .any (Rows.imageNoneSpec.pre6 enc Tryz.prog Tryz.f4 Rows.imageNoneRow.domain false) (Rows.imageNoneSpec.post enc Tryz.prog Tryz.f4 false true false false) := by
  refine returnsInHanded_of_change (C := Tryz.checked) own started (by kernel_rfl) Tryz.func4
    (ChangeSpec.witness6 (enc := enc) (C := Tryz.checked) false ⟨#[], #[.int .i64 0, .int .i64 0], []⟩ 8 (by kernel_rfl) (by kernel_rfl) (by kernel_rfl) (by kernel_rfl)) ?_
  intro W base args ds gs before hval0 hW hcnd _
  have hval : ∀ (j : Nat) t v, Tryz.f4.params[j]? = some t → args[j]? = some v → Value.okWide Tryz.prog W .any base t v := hval0
  have hW' := hW
  obtain ⟨p, q, hA0, hV, rfl, hfz, hnd⟩ := hW
  have hA : DataW.TrodAll enc Tryz.prog W 0 (fun _ => true) true Tryz.f4.params.toList args.toList ds p := hA0
  rw [Tryz.params4] at hA hval
  obtain ⟨v0, vs0, d0, ds0, p0, q0, hargs0, rfl, rfl, k0, r0⟩ := trodAll_cons hA
  obtain ⟨v1, vs1, d1, ds1, p1, q1, hargs1, rfl, rfl, k1, r1⟩ := trodAll_cons r0
  obtain ⟨rfl, rfl, rfl⟩ := trodAll_nil r1
  obtain rfl : args = #[v0, v1] := by cases args; simp_all
  obtain ⟨rfl, rfl⟩ := trodVars_none hV
  obtain ⟨n0, rfl⟩ := okWide_int Tryz.underlying3 (hval 0 _ v0 rfl rfl)
  obtain ⟨n1, rfl⟩ := okWide_int Tryz.underlying3 (hval 1 _ v1 rfl rfl)
  refine (walk _ _ rfl rfl W).mono fun e W' ⟨he, hg⟩ => ?_
  subst he
  exact ⟨_, rfl, law_post (tb := 4) (by kernel_rfl) (by kernel_rfl) (by kernel_rfl) (by kernel_rfl) rfl hW' rfl (by kernel_rfl) (by kernel_rfl) hg⟩

theorem over : Rows.imageNoneRow.holds Tryz.pinned (OpenSpec.ofChange Rows.imageNoneSpec) :=
  OpenClaim.holds_of_wide 4 Tryz.f4 rfl rfl rfl rfl rfl rfl rfl ⟨rfl, rfl, rfl, rfl, rfl⟩ rfl rfl rfl rfl rfl (by kernel_rfl) Tryz.func4 (by kernel_rfl)
    (of_decide_eq_true (by kernel_rfl)) (by unfold Func.isWrapper; first | (rw [if_pos (by decide +kernel)]; kernel_rfl) | (rw [if_neg (by decide +kernel)]; exact ⟨rfl, rfl⟩))
    (fun os started H enc _ => lifted os started H enc)
theorem proved : Rows.ImageNoneSaid :=
  over
#print axioms proved
end Go.Proofs.YtakecdepecjehaaGreat.imageNone
