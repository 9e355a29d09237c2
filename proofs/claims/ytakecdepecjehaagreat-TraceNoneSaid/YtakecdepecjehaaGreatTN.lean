/- TraceNone: for every input the law returns true and its arguments read as before. No condition. -/
import Derived.Test.YtakecdepecjehaaGreatRows
import Derived.Test.YtakecdepecjehaaGreatP11
import Derived.Test.YtakecdepecjehaaGreatP12
set_option linter.unusedSimpArgs false
set_option linter.unusedVariables false
set_option linter.unnecessarySimpa false
namespace Go.Proofs.YtakecdepecjehaaGreat.traceNone
open Go.ChangeShapes Go.WideShapes Go.ChangeAt Go.RowKit
open Go.Abs (VRels VRel opq law_post)
open Go.Abs.F (fcall f_closed h0 yesT)
open Go.Abs.TTraceNone (tab tab_ok)
set_option linter.unusedVariables false
set_option linter.constructorNameAsVariable false

theorem own : ownKnob Tryz.prog.godebug = none := by kernel_rfl
theorem run (v0 : Value) (x0 : Value) (x1 : Value) (x2 : Value) (x3 : Value) (x4 : Value) (x5 : Value) : fcall tab 3000 3 [.val v0, .agg [.val x0, .val x1, .val x2, .val x3, .val x4, .val x5]] h0 yesT = .yes := by kernel_rfl
theorem walk (v0 : Value) (x0 : Value) (x1 : Value) (x2 : Value) (x3 : Value) (x4 : Value) (x5 : Value) (k0 : opq v0 = true) (g0 : opq x0 = true) (g1 : opq x1 = true) (g2 : opq x2 = true) (g3 : opq x3 = true) (g4 : opq x4 = true) (g5 : opq x5 = true) (w : World) : Calls Tryz.prog 3 #[v0, .agg #[x0, x1, x2, x3, x4, x5]] w fun e w' => e = .returned (.bool true) ∧ Below w.heap.size w w' :=
  f_closed (by kernel_rfl) Go.Abs.noNat_ok tab_ok (args := [.val v0, .agg [.val x0, .val x1, .val x2, .val x3, .val x4, .val x5]]) (fun ρ => by
    simp [VRels, VRel, k0, g0, g1, g2, g3, g4, g5]
    exact ⟨_, _, ⟨rfl, rfl⟩, rfl, _, rfl, _, rfl, rfl⟩) (run v0 x0 x1 x2 x3 x4 x5) w
theorem cell2 {W : World} {base : Nat} {v : Value} (h : Cell.okWide Tryz.prog W .any base 2 v) : opq v = true := by
  simp only [Cell.okWide, Tryz.underlying2] at h
  cases v <;> simp_all [Cell.ok, Tryz.underlying2] <;> rfl
theorem six {cs : Array Value} (h : cs.size = 6) : ∃ x0 x1 x2 x3 x4 x5, cs = #[x0, x1, x2, x3, x4, x5] :=
  ⟨cs[0], cs[1], cs[2], cs[3], cs[4], cs[5], by
    apply Array.ext
    · simp [h]
    · intro i h1 h2
      match i with
      | 0 | 1 | 2 | 3 | 4 | 5 => rfl
      | n + 6 => omega⟩

/-! ### THE ROW's STEP -/
set_option maxRecDepth 100000 in
theorem lifted (os : Os) (started : os.Started) (H : Type) (enc : TypeId × Value → H) :
    ReturnsInHanded {} Tryz.checked os 3 .any (Rows.traceNoneSpec.pre6 enc Tryz.prog Tryz.f3 Rows.traceNoneRow.domain false) (Rows.traceNoneSpec.post enc Tryz.prog Tryz.f3 false true false false) := by
  refine returnsInHanded_of_change (C := Tryz.checked) own started (by kernel_rfl) Tryz.func3
    (ChangeSpec.witness6 (enc := enc) (C := Tryz.checked) false ⟨#[], #[.int .i64 0, .agg #[.int .i64 0, .int .i64 0, .int .i64 0, .int .i64 0, .int .i64 0, .int .i64 0]], []⟩ 8 (by kernel_rfl) (by kernel_rfl) (by kernel_rfl) (by kernel_rfl)) ?_
  intro W base args ds gs before hval0 hW hcnd _
  have hval : ∀ (j : Nat) t v, Tryz.f3.params[j]? = some t → args[j]? = some v → Value.okWide Tryz.prog W .any base t v := hval0
  have hW' := hW
  obtain ⟨p, q, hA0, hV, rfl, hfz, hnd⟩ := hW
  have hA : DataW.TrodAll enc Tryz.prog W 0 (fun _ => true) true Tryz.f3.params.toList args.toList ds p := hA0
  rw [Tryz.params3] at hA hval
  obtain ⟨v0, vs0, d0, ds0, p0, q0, hargs0, rfl, rfl, k0, r0⟩ := trodAll_cons hA
  obtain ⟨v1, vs1, d1, ds1, p1, q1, hargs1, rfl, rfl, k1, r1⟩ := trodAll_cons r0
  obtain ⟨rfl, rfl, rfl⟩ := trodAll_nil r1
  obtain rfl : args = #[v0, v1] := by cases args; simp_all
  obtain ⟨rfl, rfl⟩ := trodVars_none hV
  obtain ⟨n0, rfl⟩ := okWide_int Tryz.underlying3 (hval 0 _ v0 rfl rfl)
  have hr : Value.okWide Tryz.prog W .any base 25 v1 := hval 1 25 v1 rfl rfl
  simp only [Value.okWide, Tryz.underlying25] at hr
  obtain ⟨cs, rfl, hs, ts, ht1, _, ht2⟩ := hr
  have e1 : Tryz.prog.cellTypes Tryz.prog.depth 25 = some [2, 2, 2, 2, 2, 2] := by kernel_rfl
  have e2 : Tryz.prog.cellsOf 25 = 6 := by kernel_rfl
  rw [e1] at ht1
  simp only [Option.some.injEq] at ht1
  subst ht1
  rw [e2] at hs
  obtain ⟨x0, x1, x2, x3, x4, x5, rfl⟩ := six hs
  obtain ⟨u0, s0, t0⟩ := ht2 0 x0 rfl
  obtain rfl : u0 = 2 := by simpa using s0.symm
  obtain ⟨u1, s1, t1⟩ := ht2 1 x1 rfl
  obtain rfl : u1 = 2 := by simpa using s1.symm
  obtain ⟨u2, s2, t2⟩ := ht2 2 x2 rfl
  obtain rfl : u2 = 2 := by simpa using s2.symm
  obtain ⟨u3, s3, t3⟩ := ht2 3 x3 rfl
  obtain rfl : u3 = 2 := by simpa using s3.symm
  obtain ⟨u4, s4, t4⟩ := ht2 4 x4 rfl
  obtain rfl : u4 = 2 := by simpa using s4.symm
  obtain ⟨u5, s5, t5⟩ := ht2 5 x5 rfl
  obtain rfl : u5 = 2 := by simpa using s5.symm
  refine (walk _ _ _ _ _ _ _ rfl (cell2 t0) (cell2 t1) (cell2 t2) (cell2 t3) (cell2 t4) (cell2 t5) W).mono fun e W' ⟨he, hg⟩ => ?_
  subst he
  exact ⟨_, rfl, law_post (tb := 4) (by kernel_rfl) (by kernel_rfl) (by kernel_rfl) (by kernel_rfl) rfl hW' rfl (by kernel_rfl) (by kernel_rfl) hg⟩

theorem over : Rows.traceNoneRow.holds Tryz.pinned (OpenSpec.ofChange Rows.traceNoneSpec) :=
  OpenClaim.holds_of_wide 3 Tryz.f3 rfl rfl rfl rfl rfl rfl rfl ⟨rfl, rfl, rfl, rfl, rfl⟩ rfl rfl rfl rfl rfl (by kernel_rfl) Tryz.func3 (by kernel_rfl)
    (of_decide_eq_true (by kernel_rfl)) (by unfold Func.isWrapper; first | (rw [if_pos (by decide +kernel)]; kernel_rfl) | (rw [if_neg (by decide +kernel)]; exact ⟨rfl, rfl⟩))
    (fun os started H enc _ => lifted os started H enc)
theorem proved : Rows.TraceNoneSaid :=
  over
#print axioms proved
end Go.Proofs.YtakecdepecjehaaGreat.traceNone
