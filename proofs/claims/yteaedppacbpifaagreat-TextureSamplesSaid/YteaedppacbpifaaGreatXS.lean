/- TextureSamples: for every input the law returns true and its arguments read as before. No condition. -/
import Derived.Test.YteaedppacbpifaaGreatRows
import Derived.Test.YteaedppacbpifaaGreatP10
import Derived.Test.YteaedppacbpifaaGreatP15
import Derived.Test.YteaedppacbpifaaGreatP16
set_option linter.unusedSimpArgs false
set_option linter.unusedVariables false
set_option linter.unnecessarySimpa false
namespace Go.Proofs.YteaedppacbpifaaGreat.textureSamples
open Go.ChangeShapes Go.WideShapes Go.ChangeAt Go.RowKit
open Go.Abs (VRels VRel law_post)
open Go.Abs.S (arg_bytes absW_rel rel_world natB natB_ok absW heapW byts)
open Go.Abs.F (fcall f_closed h0 yesT)
open Go.Abs.TTexture (tab tab_ok)
open Go.Proofs.Tx (law_spec)
set_option linter.unusedVariables false

theorem own : ownKnob Tryz.prog.godebug = none := by kernel_rfl
theorem run : fcall tab 3000 6 [] h0 yesT = .yes := by kernel_rfl
theorem awake (w : World) : Calls Tryz.prog 6 #[] w fun e w' => e = .returned (.bool true) ∧ Below w.heap.size w w' :=
  f_closed (by kernel_rfl) Go.Abs.noNat_ok tab_ok (args := []) (fun ρ => by simp [VRels]) run w
theorem nat : Go.Abs.NatOK Tryz.prog (natB 6) := natB_ok (by kernel_rfl) awake
theorem bounds_i64 {n : Int} (h : (Lit.int .i64 n).wf = true) : -9223372036854775808 ≤ n ∧ n ≤ 9223372036854775807 := by
  simp [Lit.wf, IntKind.min, IntKind.max, IntKind.signed, IntKind.bits] at h
  exact h
theorem okSlice {P : Program} {W : World} {r : Reach} {base : Nat} {t e : TypeId} {v : Value} (ht : P.underlying t = some (.slice e)) (h : Cell.okWide P W r base t v) : Value.okWide P W r base t v := by
  simp only [Value.okWide, ht]
  exact h
theorem cell_int {P : Program} {W : World} {base : Nat} {t : TypeId} {k : IntKind} {v : Value} (ht : P.underlying t = some (.int k)) (h : Cell.okWide P W .any base t v) : ∃ n, v = .int k n := by
  simp only [Cell.okWide, ht] at h
  cases v <;> simp [Cell.ok, ht] at h
  obtain ⟨rfl, _⟩ := h
  exact ⟨_, rfl⟩
theorem three {cs : Array Value} (h : cs.size = 3) : ∃ x y z, cs = #[x, y, z] :=
  ⟨cs[0], cs[1], cs[2], by
    apply Array.ext
    · simp [h]
    · intro i h1 h2
      match i with
      | 0 | 1 | 2 => rfl
      | n + 3 => omega⟩
set_option linter.constructorNameAsVariable false
set_option maxRecDepth 100000 in
/-- a texture that came in -/
theorem arg_tex {H : Type} {enc : TypeId × Value → H} {W : World} {base : Nat} {v : Value} {d : DataW H} {p : List MemPlace} (h : Value.okWide Tryz.prog W .any base 24 v) (hd : DataW.Trod enc Tryz.prog W 0 (fun _ => true) true 24 v d p) :
    ∃ (a b : Int) (s : Value) (pix : List UInt8), v = .agg #[.int .i64 a, .int .i64 b, s] ∧ Go.Abs.S.Cel (heapW W).next (heapW W) (absW W s) (byts pix) ∧ (absW W s).one = true := by
  simp only [Value.okWide, Tryz.underlying24] at h
  obtain ⟨cs, rfl, hs, ts, ht1, _, ht2⟩ := h
  have e1 : Tryz.prog.cellTypes Tryz.prog.depth 24 = some [3, 3, 22] := by kernel_rfl
  have e2 : Tryz.prog.cellsOf 24 = 3 := by kernel_rfl
  rw [e1] at ht1
  simp only [Option.some.injEq] at ht1
  subst ht1
  rw [e2] at hs
  obtain ⟨x0, x1, x2, rfl⟩ := three hs
  obtain ⟨u0, s0, t0⟩ := ht2 0 x0 rfl
  obtain rfl : u0 = 3 := by simpa using s0.symm
  obtain ⟨u1, s1, t1⟩ := ht2 1 x1 rfl
  obtain rfl : u1 = 3 := by simpa using s1.symm
  obtain ⟨u2, s2, t2⟩ := ht2 2 x2 rfl
  obtain rfl : u2 = 22 := by simpa using s2.symm
  obtain ⟨a, rfl⟩ := cell_int Tryz.underlying3 t0
  obtain ⟨b, rfl⟩ := cell_int Tryz.underlying3 t1
  have ox := okSlice Tryz.underlying22 t2
  obtain ⟨fuel, hf⟩ := hd
  obtain ⟨xs, n, _, _, _, hlen, hi⟩ := DataW.trod_struct Tryz.underlying24 hf
  have hlen3 : xs.length = 3 := hlen
  have h2 := hi 2 _ rfl
  have hx : xs[2]? = some (xs[2]'(by omega)) := List.getElem?_eq_getElem _
  rw [hx] at h2
  have hc : Tryz.prog.cellsOf 22 = 1 := by kernel_rfl
  obtain ⟨oa, len, cap, rfl⟩ := okWide_slice Tryz.underlying22 ox
  have h3 : DataW.trod enc Tryz.prog W 0 (fun _ => true) true n 22 [.slice oa len cap] = some (xs[2]'(by omega)) := by
    rw [← h2]
    show _ = DataW.trod enc Tryz.prog W 0 (fun _ => true) true n 22 (List.take (Tryz.prog.cellsOf 22) _)
    rw [hc]
    rfl
  obtain ⟨pix, g1, _, g2, _⟩ := arg_bytes (v := .slice oa len cap) (d := (xs[2]'(by omega)).1) (p := (xs[2]'(by omega)).2) Tryz.underlying22 Tryz.underlying5 (by kernel_rfl) ox ⟨n, h3⟩
  exact ⟨a, b, _, pix, rfl, g1.cel, g2⟩

/-! ### THE ROW's STEP -/
set_option maxRecDepth 100000 in
theorem lifted (os : Os) (started : os.Started) (H : Type) (enc : TypeId × Value → H) :
    ReturnsInHanded {} Tryz.checked os 3 .any (Rows.textureSamplesSpec.pre6 enc Tryz.prog Tryz.f3 Rows.textureSamplesRow.domain false) (Rows.textureSamplesSpec.post enc Tryz.prog Tryz.f3 false true false false) := by
  refine returnsInHanded_of_change (C := Tryz.checked) own started (by kernel_rfl) Tryz.func3
    (ChangeSpec.witness6 (enc := enc) (C := Tryz.checked) false ⟨#[], #[.agg #[.int .i64 0, .int .i64 0, .slice none 0 0], .int .i64 0, .int .i64 0], []⟩ 8 (by kernel_rfl) (by kernel_rfl) (by kernel_rfl) (by kernel_rfl)) ?_
  intro W base args ds gs before hval0 hW hcnd _
  have hval : ∀ (j : Nat) t v, Tryz.f3.params[j]? = some t → args[j]? = some v → Value.okWide Tryz.prog W .any base t v := hval0
  have hW' := hW
  obtain ⟨p, q, hA0, hV, rfl, hfz, hnd⟩ := hW
  have hA : DataW.TrodAll enc Tryz.prog W 0 (fun _ => true) true Tryz.f3.params.toList args.toList ds p := hA0
  rw [Tryz.params3] at hA hval
  obtain ⟨v0, vs0, d0, ds0, p0, q0, hargs, rfl, rfl, t0, r0⟩ := trodAll_cons hA
  obtain ⟨v1, vs1, d1, ds1, p1, q1, rfl, rfl, rfl, t1, r1⟩ := trodAll_cons r0
  obtain ⟨v2, vs2, d2, ds2, p2, q2, rfl, rfl, rfl, t2, r2⟩ := trodAll_cons r1
  obtain ⟨rfl, rfl, rfl⟩ := trodAll_nil r2
  obtain rfl : args = #[v0, v1, v2] := by cases args; simp_all
  obtain ⟨rfl, rfl⟩ := trodVars_none hV
  obtain ⟨a, b, s, pix, rfl, hs, h1⟩ := arg_tex (hval 0 24 v0 rfl rfl) t0
  obtain ⟨u, rfl, rfl, rfl, wu⟩ := open_int Tryz.underlying2 (hval 1 2 v1 rfl rfl) t1
  obtain ⟨v, rfl, rfl, rfl, wv⟩ := open_int Tryz.underlying2 (hval 2 2 v2 rfl rfl) t2
  have bu := bounds_i64 wu
  have bv := bounds_i64 wv
  have hrun := (law_spec (w := a) (h := b) hs h1 bu.1 bu.2 bv.1 bv.2).calls (by kernel_rfl) nat (rel_world W) (vs := #[.agg #[.int .i64 a, .int .i64 b, s], .int .i64 u, .int .i64 v])
    (by
      simp only [VRels]
      refine ⟨_, _, rfl, ?_, _, _, rfl, absW_rel W (.int .i64 u), _, _, rfl, absW_rel W (.int .i64 v), rfl⟩
      simp only [VRel, VRels]
      exact ⟨_, rfl, _, _, rfl, rfl, _, _, rfl, rfl, _, _, rfl, absW_rel W s, rfl⟩)
  refine hrun.mono fun e W' hx => ?_
  obtain ⟨ρ', v, H', u, _, rfl, ⟨rfl, _⟩, R, hu⟩ := hx
  simp only [VRel] at hu
  subst hu
  exact ⟨_, rfl, law_post (tb := 4) (by kernel_rfl) (by kernel_rfl) (by kernel_rfl) (by kernel_rfl) rfl hW' rfl (by kernel_rfl) (by kernel_rfl) R.below⟩

theorem over : Rows.textureSamplesRow.holds Tryz.pinned (OpenSpec.ofChange Rows.textureSamplesSpec) :=
  OpenClaim.holds_of_wide 3 Tryz.f3 rfl rfl rfl rfl rfl rfl rfl ⟨rfl, rfl, rfl, rfl, rfl⟩ rfl rfl rfl rfl rfl (by kernel_rfl) Tryz.func3 (by kernel_rfl)
    (of_decide_eq_true (by kernel_rfl)) (by unfold Func.isWrapper; first | (rw [if_pos (by decide +kernel)]; kernel_rfl) | (rw [if_neg (by decide +kernel)]; exact ⟨rfl, rfl⟩))
    (fun os started H enc _ => lifted os started H enc)
theorem proved : Rows.TextureSamplesSaid :=
  over
#print axioms proved
end Go.Proofs.YteaedppacbpifaaGreat.textureSamples
