/- FrameTells: for every input the law returns true and its arguments read as before. No condition. -/
import Derived.Test.YtndeemjhengoiaaRows
import Derived.Test.YtndeemjhengoiaaFr4
import Derived.Test.YtndeemjhengoiaaS8
import Derived.Test.YtndeemjhengoiaaTFrame
import Derived.Test.YtndeemjhengoiaaL1
namespace Go.Proofs.Ytndeemjhengoiaa.frameTells
open Go.ChangeShapes Go.WideShapes Go.ChangeAt Go.RowKit
open Go.Abs (VRels VRel law_post)
open Go.Abs.S (arg_ints arg_sized absW_rel rel_world natB natB_ok ints)
open Go.Abs.F (fcall f_closed h0 yesT)
open Go.Abs.TFrame (tab tab_ok)
open Go.Proofs.Fr (law_tells)
set_option linter.unusedVariables false

theorem own : ownKnob Try.prog.godebug = none := by kernel_rfl
theorem run : fcall tab 3000 22 [] h0 yesT = .yes := by kernel_rfl
theorem awake (w : World) : Calls Try.prog 22 #[] w fun e w' => e = .returned (.bool true) ∧ Below w.heap.size w w' :=
  f_closed (by kernel_rfl) Go.Abs.noNat_ok tab_ok (args := []) (fun ρ => by simp [VRels]) run w
theorem nat : Go.Abs.NatOK Try.prog (natB 22) := natB_ok (by kernel_rfl) awake
theorem agg2 {P : Program} {W : World} {r : Reach} {base : Nat} {t u e : TypeId} {v : Value} (ha : P.underlying t = some (.array 2 e)) (hc : P.cellsOf t = 2) (hts : P.cellTypes P.depth t = some [u, u]) (hu : P.underlying u = some (.int .i64))
    (h : Value.okWide P W r base t v) : ∃ a b, v = .agg #[.int .i64 a, .int .i64 b] := by
  simp only [Value.okWide, ha] at h
  obtain ⟨cs, rfl, hs, ts, h1, _, h2⟩ := h
  rw [hts] at h1
  simp only [Option.some.injEq] at h1
  subst h1
  rw [hc] at hs
  have key : ∀ i, i < 2 → ∃ n, cs[i]? = some (.int .i64 n) := by
    intro i hi
    have hx : cs[i]? = some cs[i] := Array.getElem?_eq_getElem (by omega)
    obtain ⟨u', q1, q2⟩ := h2 i _ hx
    have : u' = u := by
      obtain rfl | rfl : i = 0 ∨ i = 1 := by omega
      · simpa using q1.symm
      · simpa using q1.symm
    subst this
    generalize cs[i] = x at *
    simp only [Cell.okWide, hu] at q2
    cases x <;> simp [Cell.ok, hu] at q2
    obtain ⟨rfl, _⟩ := q2
    exact ⟨_, hx⟩
  obtain ⟨a, ea⟩ := key 0 (by omega)
  obtain ⟨b, eb⟩ := key 1 (by omega)
  refine ⟨a, b, ?_⟩
  congr 1
  apply Array.ext_getElem?
  intro i
  by_cases h0 : i = 0
  · subst h0; rw [ea]; rfl
  · by_cases h1 : i = 1
    · subst h1; rw [eb]; rfl
    · rw [Array.getElem?_eq_none (by omega), Array.getElem?_eq_none (by simp; omega)]

/-! ### THE ROW's STEP -/
set_option maxRecDepth 100000 in
theorem lifted (os : Os) (started : os.Started) (H : Type) (enc : TypeId × Value → H) :
    ReturnsInHanded {} Try.checked os 6 .any (Rows.frameTellsSpec.pre6 enc Try.prog Try.f6 Rows.frameTellsRow.domain false) (Rows.frameTellsSpec.post enc Try.prog Try.f6 false true false false) := by
  refine returnsInHanded_of_change_sized (C := Try.checked) own started (by kernel_rfl) Try.func6
    (ChangeSpec.witness6 (enc := enc) (C := Try.checked) false ⟨#[], #[.slice none 0 0, .slice none 0 0, .agg #[.int .i64 0, .int .i64 0]], []⟩ 8 (by kernel_rfl) (by kernel_rfl) (by kernel_rfl) (by kernel_rfl)) ?_
  intro W base args ds gs before hval0 hW hcnd hsz _
  have hval : ∀ (j : Nat) t v, Try.f6.params[j]? = some t → args[j]? = some v → Value.okWide Try.prog W .any base t v := hval0
  have hW' := hW
  obtain ⟨p, q, hA0, hV, rfl, hfz, hnd⟩ := hW
  have hA : DataW.TrodAll enc Try.prog W 0 (fun _ => true) true Try.f6.params.toList args.toList ds p := hA0
  have hsz' : (DataW.weightsEach Try.prog (Try.f6.params.toList ++ Rows.frameTellsSpec.plain.varTypes Try.prog) (ds ++ gs)).all (· ≤ reachBytes) = true := hsz
  rw [Try.params6] at hA hval hsz'
  obtain ⟨v0, vs0, d0, ds0, p0, q0, hargs, rfl, rfl, t0, r0⟩ := trodAll_cons hA
  obtain ⟨v1, vs1, d1, ds1, p1, q1, rfl, rfl, rfl, t1, r1⟩ := trodAll_cons r0
  obtain ⟨v2, vs2, d2, ds2, p2, q2, rfl, rfl, rfl, t2, r2⟩ := trodAll_cons r1
  obtain ⟨rfl, rfl, rfl⟩ := trodAll_nil r2
  obtain rfl : args = #[v0, v1, v2] := by cases args; simp_all
  obtain ⟨rfl, rfl⟩ := trodVars_none hV
  have k0 := hval 0 _ v0 rfl rfl
  have k1 := hval 1 _ v1 rfl rfl
  have k2 := hval 2 _ v2 rfl rfl
  obtain ⟨l, al, dl⟩ := arg_ints Try.underlying28 Try.underlying3 (by kernel_rfl) k0 t0
  obtain ⟨m, am, dm⟩ := arg_ints Try.underlying28 Try.underlying3 (by kernel_rfl) k1 t1
  obtain ⟨a, b, rfl⟩ := agg2 Try.underlying29 (by kernel_rfl) (by kernel_rfl) Try.underlying3 k2
  have sl := arg_sized hsz' (j := 0) rfl rfl Try.underlying28 (by kernel_rfl) dl
  have sm := arg_sized hsz' (j := 1) rfl rfl Try.underlying28 (by kernel_rfl) dm
  have hrun := (law_tells (a := a) (b := b) al am sl sm).calls (by kernel_rfl) nat (rel_world W) (vs := #[v0, v1, .agg #[.int .i64 a, .int .i64 b]])
    (by simp only [VRels]; exact ⟨_, _, rfl, absW_rel W v0, _, _, rfl, absW_rel W v1, _, _, rfl, by simp [VRel, VRels], rfl⟩)
  refine hrun.mono fun e W' hx => ?_
  obtain ⟨ρ', v, H', u, _, rfl, rfl, R, hu⟩ := hx
  simp only [VRel] at hu
  subst hu
  exact ⟨_, rfl, law_post (tb := 4) (by kernel_rfl) (by kernel_rfl) (by kernel_rfl) (by kernel_rfl) rfl hW' rfl (by kernel_rfl) (by kernel_rfl) R.below⟩

theorem over : Rows.frameTellsRow.holds Try.pinned (OpenSpec.ofChange Rows.frameTellsSpec) :=
  OpenClaim.holds_of_wide 6 Try.f6 rfl rfl rfl rfl rfl rfl rfl ⟨rfl, rfl, rfl, rfl, rfl⟩ rfl rfl rfl rfl rfl (by kernel_rfl) Try.func6 (by kernel_rfl)
    (of_decide_eq_true (by kernel_rfl)) (by unfold Func.isWrapper; first | (rw [if_pos (by decide +kernel)]; kernel_rfl) | (rw [if_neg (by decide +kernel)]; exact ⟨rfl, rfl⟩))
    (fun os started H enc _ => lifted os started H enc)
theorem proved : Rows.FrameTellsSaid :=
  over
#print axioms proved
end Go.Proofs.Ytndeemjhengoiaa.frameTells
