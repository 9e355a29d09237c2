/- WordsNumbers: for every input the law returns true and its arguments read as before. Condition: the tables of Go's library that the row lists hold what the program's text lays (the card ties them). -/
import Derived.Test.YtdodomcjoekpbaaDoorCards
import Derived.Test.YtdodomcjoekpbaaDoorTie
import Derived.Handed
import Derived.JoinedOf
import Derived.ChangeVars
import Derived.ChangeMaps5
import Derived.SevenTiedAt
import Derived.Test.YtdodomcjoekpbaaDoorP14
set_option linter.unusedSimpArgs false
set_option linter.unusedVariables false
namespace Go.Proofs.YtdodomcjoekpbaaDoor.wordsNumbers
open Go.ChangeShapes Go.WideShapes Go.RowKit
open Go.Abs (VRels VRel law_post)
open Go.Abs.S (absW absW_rel rel_world heapW arg_bytes pair_cells)
open Go.Proofs.Wo (nat nat_ok nat_wo numbers_spec)
open Go.Proofs.YtdodomcjoekpbaaDoor (own glo_of_laid laidL)
set_option linter.unusedVariables false
theorem okSlice {P : Program} {W : World} {r : Reach} {base : Nat} {t e : TypeId} {v : Value} (ht : P.underlying t = some (.slice e)) (h : Cell.okWide P W r base t v) : Value.okWide P W r base t v := by
  simp only [Value.okWide, ht]
  exact h
theorem one_cell {P : Program} {W : World} {r : Reach} {base : Nat} {t e : TypeId} {v : Value} (ht : P.underlying t = some (.slice e)) (h : Value.okWide P W r base t v) : v.cells.toList = [v] := by
  obtain ⟨oa, len, cap, rfl⟩ := okWide_slice ht h
  rfl
set_option maxRecDepth 100000 in
theorem lifted (os : Os) (started : os.Started) (H : Type) (enc : TypeId × Value → H) :
    ReturnsInHanded {} Tryd.checked os 4 .any (fun w args => (Rows.wordsNumbersSpec.pre enc Tryd.prog Tryd.f4 [] false w args ∧ laidMetH Tryd.prog Rows.wordsNumbersRow.laid w) ∧ sizedMet enc Tryd.prog Tryd.f4 (OpenSpec.ofChange Rows.wordsNumbersSpec) false w args)
      (Rows.wordsNumbersSpec.post enc Tryd.prog Tryd.f4 false true false false) := by
  refine returnsInHanded_of_change_and (C := Tryd.checked) (X := fun w _ => laidMetH Tryd.prog Rows.wordsNumbersRow.laid w) (fun _ _ _ hh h => h.of_heap hh) own started (by kernel_rfl) Tryd.func4
    (ChangeSpec.witness_shaped (enc := enc) (C := Tryd.checked) (os := os) (X := fun w _ => laidMetH Tryd.prog Rows.wordsNumbersRow.laid w) false (World.laidAll Tryd.prog os Rows.wordsNumbersRow.laid) #[.int .i64 0, .int .u32 0, .agg #[.slice none 0 0, .slice none 0 0]] 8 (World.laidAll_os _ _ _) (World.shaped_of_ZipB (by kernel_rfl) (by kernel_rfl)) (by kernel_rfl) (by kernel_rfl) (by kernel_rfl) (laidMet_laidAll _ (by kernel_rfl) (by kernel_rfl))) ?_
  intro W base args ds gs before hval0 hW _ _ hL _
  have hval : ∀ (j : Nat) t v, Tryd.f4.params[j]? = some t → args[j]? = some v → Value.okWide Tryd.prog W .any base t v := hval0
  have hW' := hW
  obtain ⟨p, q, hA0, hV, rfl, hfz, hnd⟩ := hW
  have hA : DataW.TrodAll enc Tryd.prog W 0 (fun _ => true) true Tryd.f4.params.toList args.toList ds p := hA0
  rw [Tryd.params4] at hA hval
  obtain ⟨v0, vs0, d0, ds0, p0, q0, hargs, rfl, rfl, t0, r0⟩ := trodAll_cons hA
  obtain ⟨v1, vs1, d1, ds1, p1, q1, rfl, rfl, rfl, t1, r1⟩ := trodAll_cons r0
  obtain ⟨v2, vs2, d2, ds2, p2, q2, rfl, rfl, rfl, t2, r2⟩ := trodAll_cons r1
  obtain ⟨rfl, rfl, rfl⟩ := trodAll_nil r2
  obtain rfl : args = #[v0, v1, v2] := by cases args; simp_all
  obtain ⟨rfl, rfl⟩ := trodVars_none hV
  obtain ⟨n, rfl, rfl, rfl, wn⟩ := open_int Tryd.underlying2 (hval 0 2 v0 rfl rfl) t0
  obtain ⟨w, rfl, rfl, rfl, ww⟩ := open_int Tryd.underlying35 (hval 1 35 v1 rfl rfl) t1
  obtain ⟨x, y, e1, s1, e2, s2, rfl, kx, ky, ⟨nx, tx⟩, ⟨ny, ty⟩⟩ := pair_cells (u := 36) Tryd.underlying37 (by kernel_rfl) (by kernel_rfl) (by kernel_rfl) (hval 2 37 v2 rfl rfl) t2
  have ox := okSlice Tryd.underlying36 kx
  have oy := okSlice Tryd.underlying36 ky
  obtain ⟨lx, ax, _, bx, cx⟩ := arg_bytes Tryd.underlying36 Tryd.underlying5 (by kernel_rfl) ox ⟨nx, by rw [one_cell Tryd.underlying36 ox]; exact tx⟩
  obtain ⟨ly, ay, _, by_, cy⟩ := arg_bytes Tryd.underlying36 Tryd.underlying5 (by kernel_rfl) oy ⟨ny, by rw [one_cell Tryd.underlying36 oy]; exact ty⟩
  have bw := bounds_u32 ww
  obtain ⟨k, rfl⟩ : ∃ k : Nat, w = (k : Int) := ⟨w.toNat, by omega⟩
  obtain ⟨G, hn⟩ := glo_of_laid hL
  have hrun := (numbers_spec nat_wo (n := n) (w := k) (by omega) ax.cel ay.cel bx by_ hn G).calls (by kernel_rfl) nat_ok (rel_world W) (vs := #[.int .i64 n, .int .u32 k, .agg #[x, y]])
    (by
      simp only [VRels]
      refine ⟨_, _, rfl, absW_rel W (.int .i64 n), _, _, rfl, absW_rel W (.int .u32 k), _, _, rfl, ?_, rfl⟩
      simp only [VRel, VRels]
      exact ⟨_, rfl, _, _, rfl, absW_rel W x, _, _, rfl, absW_rel W y, rfl⟩)
  refine hrun.mono fun e W' hx => ?_
  obtain ⟨ρ', v, H', u, _, rfl, ⟨rfl, _⟩, R, hu⟩ := hx
  simp only [VRel] at hu
  subst hu
  exact ⟨_, rfl, law_post (tb := 4) (by kernel_rfl) (by kernel_rfl) (by kernel_rfl) (by kernel_rfl) rfl hW' rfl (by kernel_rfl) (by kernel_rfl) R.below⟩
theorem over : Rows.WordsNumbersSaid :=
  OpenClaim.holds_of_wide 4 Tryd.f4 rfl rfl rfl rfl rfl rfl rfl ⟨rfl, rfl, rfl, rfl, rfl⟩ rfl rfl rfl rfl rfl (by kernel_rfl) Tryd.func4 (by kernel_rfl)
    (of_decide_eq_true (by kernel_rfl)) (by unfold Func.isWrapper; first | (rw [if_pos (by decide +kernel)]; kernel_rfl) | (rw [if_neg (by decide +kernel)]; exact ⟨rfl, rfl⟩))
    (fun os started H enc _ => lifted os started H enc)
theorem proved : Rows.WordsNumbersCardSaid :=
  Claim7.holds_tied_plain_at .later [] [.data, .data, .data] true Rows.wordsNumbersCard.stood.harness false
    over (fun _ h => by cases h) (by kernel_rfl) (fun _ h => by cases h) wordsNumbers_row_tie rfl ⟨rfl, rfl⟩ (by kernel_rfl) rfl
    (fun f fn hf hfn => by
      obtain rfl : f = 4 := (Option.some.inj (Eq.trans (by kernel_rfl : some 4 = _) hf)).symm
      obtain rfl : fn = Tryd.f4 := (Option.some.inj (Tryd.func4.symm.trans hfn)).symm
      exact ⟨by kernel_rfl, fun j t ht => by
        rw [Tryd.params4] at ht
        have h3 : t = 2 ∨ t = 35 ∨ t = 37 := by
          rcases j with _ | _ | _ | j
          · left; simpa using ht.symm
          · right; left; simpa using ht.symm
          · right; right; simpa using ht.symm
          · simp at ht
        rcases h3 with rfl | rfl | rfl
        · exact (show Tryd.prog.wantsStandIn 2 = false by kernel_rfl)
        · exact (show Tryd.prog.wantsStandIn 35 = false by kernel_rfl)
        · exact (show Tryd.prog.wantsStandIn 37 = false by kernel_rfl)⟩)
    (by kernel_rfl)
#print axioms proved
end Go.Proofs.YtdodomcjoekpbaaDoor.wordsNumbers
