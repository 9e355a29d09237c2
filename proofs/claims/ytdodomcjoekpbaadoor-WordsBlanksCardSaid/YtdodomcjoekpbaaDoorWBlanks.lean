/- WordsBlanks: for every input the law returns true and its arguments read as before. Condition: the tables of Go's library that the row lists hold what the program's text lays (the card ties them). -/
import Derived.Test.YtdodomcjoekpbaaDoorCards
import Derived.Test.YtdodomcjoekpbaaDoorTie
import Derived.Handed
import Derived.JoinedOf
import Derived.ChangeVars
import Derived.ChangeMaps5
import Derived.SevenTiedAt
import Derived.Test.YtdodomcjoekpbaaDoorP14
import Derived.Test.YtdodomcjoekpbaaDoorP15
set_option linter.unusedSimpArgs false
set_option linter.unusedVariables false
namespace Go.Proofs.YtdodomcjoekpbaaDoor.wordsBlanks
open Go.ChangeShapes Go.WideShapes Go.RowKit
open Go.Abs (VRels VRel law_post)
open Go.Abs.S (absW absW_rel rel_world heapW)
open Go.Proofs.Wo (nat nat_ok nat_wo blanks_spec)
open Go.Proofs.YtdodomcjoekpbaaDoor (own glo_of_laid laidL)
set_option linter.unusedVariables false
set_option maxRecDepth 100000 in
theorem lifted (os : Os) (started : os.Started) (H : Type) (enc : TypeId × Value → H) :
    ReturnsInHanded {} Tryd.checked os 5 .any (fun w args => (Rows.wordsBlanksSpec.pre enc Tryd.prog Tryd.f5 [] false w args ∧ laidMetH Tryd.prog Rows.wordsBlanksRow.laid w) ∧ sizedMet enc Tryd.prog Tryd.f5 (OpenSpec.ofChange Rows.wordsBlanksSpec) false w args)
      (Rows.wordsBlanksSpec.post enc Tryd.prog Tryd.f5 false true false false) := by
  refine returnsInHanded_of_change_and (C := Tryd.checked) (X := fun w _ => laidMetH Tryd.prog Rows.wordsBlanksRow.laid w) (fun _ _ _ hh h => h.of_heap hh) own started (by kernel_rfl) Tryd.func5
    (ChangeSpec.witness_shaped (enc := enc) (C := Tryd.checked) (os := os) (X := fun w _ => laidMetH Tryd.prog Rows.wordsBlanksRow.laid w) false (World.laidAll Tryd.prog os Rows.wordsBlanksRow.laid) #[.string ⟨#[]⟩] 8 (World.laidAll_os _ _ _) (World.shaped_of_ZipB (by kernel_rfl) (by kernel_rfl)) (by kernel_rfl) (by kernel_rfl) (by kernel_rfl) (laidMet_laidAll _ (by kernel_rfl) (by kernel_rfl))) ?_
  intro W base args ds gs before hval0 hW _ _ hL _
  have hval : ∀ (j : Nat) t v, Tryd.f5.params[j]? = some t → args[j]? = some v → Value.okWide Tryd.prog W .any base t v := hval0
  have hW' := hW
  obtain ⟨p, q, hA0, hV, rfl, hfz, hnd⟩ := hW
  have hA : DataW.TrodAll enc Tryd.prog W 0 (fun _ => true) true Tryd.f5.params.toList args.toList ds p := hA0
  rw [Tryd.params5] at hA hval
  obtain ⟨v0, vs0, d0, ds0, p0, q0, hargs, rfl, rfl, t0, r0⟩ := trodAll_cons hA
  obtain ⟨rfl, rfl, rfl⟩ := trodAll_nil r0
  obtain rfl : args = #[v0] := by cases args; simp_all
  obtain ⟨rfl, rfl⟩ := trodVars_none hV
  obtain ⟨s, rfl, rfl, rfl, ws⟩ := Go.ChangeMaps.open_string Tryd.underlying9 (hval 0 9 v0 rfl rfl) t0
  obtain ⟨G, hn⟩ := glo_of_laid hL
  have hrun := (blanks_spec nat_wo (text := s.data.toList) hn G).calls (by kernel_rfl) nat_ok (rel_world W) (vs := #[.string s])
    (by simp only [VRels]; exact ⟨_, _, rfl, absW_rel W (.string s), rfl⟩)
  refine hrun.mono fun e W' hx => ?_
  obtain ⟨ρ', v, H', u, _, rfl, ⟨rfl, _⟩, R, hu⟩ := hx
  simp only [VRel] at hu
  subst hu
  exact ⟨_, rfl, law_post (tb := 4) (by kernel_rfl) (by kernel_rfl) (by kernel_rfl) (by kernel_rfl) rfl hW' rfl (by kernel_rfl) (by kernel_rfl) R.below⟩
theorem over : Rows.WordsBlanksSaid :=
  OpenClaim.holds_of_wide 5 Tryd.f5 rfl rfl rfl rfl rfl rfl rfl ⟨rfl, rfl, rfl, rfl, rfl⟩ rfl rfl rfl rfl rfl (by kernel_rfl) Tryd.func5 (by kernel_rfl)
    (of_decide_eq_true (by kernel_rfl)) (by unfold Func.isWrapper; first | (rw [if_pos (by decide +kernel)]; kernel_rfl) | (rw [if_neg (by decide +kernel)]; exact ⟨rfl, rfl⟩))
    (fun os started H enc _ => lifted os started H enc)
theorem proved : Rows.WordsBlanksCardSaid :=
  Claim7.holds_tied_plain_at .later [] [.data, .data, .data] true Rows.wordsBlanksCard.stood.harness false
    over (fun _ h => by cases h) (by kernel_rfl) (fun _ h => by cases h) wordsBlanks_row_tie rfl ⟨rfl, rfl⟩ (by kernel_rfl) rfl
    (fun f fn hf hfn => by
      obtain rfl : f = 5 := (Option.some.inj (Eq.trans (by kernel_rfl : some 5 = _) hf)).symm
      obtain rfl : fn = Tryd.f5 := (Option.some.inj (Tryd.func5.symm.trans hfn)).symm
      exact ⟨by kernel_rfl, fun j t ht => by
        rw [Tryd.params5] at ht
        have h3 : t = 9 := by
          rcases j with _ | j
          · simpa using ht.symm
          · simp at ht
        subst h3
        exact (show Tryd.prog.wantsStandIn 9 = false by kernel_rfl)⟩)
    (by kernel_rfl)
#print axioms proved
end Go.Proofs.YtdodomcjoekpbaaDoor.wordsBlanks
