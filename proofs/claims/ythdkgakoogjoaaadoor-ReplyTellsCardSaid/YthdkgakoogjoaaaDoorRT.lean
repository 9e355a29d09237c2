/- ReplyTells: the law returns true and its arguments read as before. Condition: the tables of Go's library that the row lists hold what the program's text lays (the card ties them). -/
import Derived.Test.YthdkgakoogjoaaaDoorCards
import Derived.Test.YthdkgakoogjoaaaDoorTie
import Derived.Handed
import Derived.JoinedOf
import Derived.ChangeVars
import Derived.ChangeMaps5
import Derived.SevenTiedAt
import Derived.Test.YthdkgakoogjoaaaDoorP17
set_option linter.unusedSimpArgs false
set_option linter.unusedVariables false
set_option linter.unnecessarySimpa false
namespace Go.Proofs.YthdkgakoogjoaaaDoor.replyTells
open Go.ChangeShapes Go.WideShapes Go.RowKit
open Go.Abs (VRels VRel law_post)
open Go.Abs.S (absW absW_rel rel_world heapW arg_pairsW weights_at arg_bytes)
open Go.Proofs.Re (natR natR_ok law_spec)
open Go.Proofs.YthdkgakoogjoaaaDoor (own2 gg_of_laid laidL2)
set_option linter.unusedVariables false
set_option maxRecDepth 100000 in
theorem lifted (os : Os) (started : os.Started) (H : Type) (enc : TypeId × Value → H) :
    ReturnsInHanded {} Tryd.checked os 4 .any (fun w args => (Rows.replyTellsSpec.pre enc Tryd.prog Tryd.f4 [] false w args ∧ laidMetH Tryd.prog Rows.replyTellsRow.laid w) ∧ sizedMet enc Tryd.prog Tryd.f4 (OpenSpec.ofChange Rows.replyTellsSpec) false w args)
      (Rows.replyTellsSpec.post enc Tryd.prog Tryd.f4 false true false false) := by
  refine returnsInHanded_of_change_and (C := Tryd.checked) (X := fun w _ => laidMetH Tryd.prog Rows.replyTellsRow.laid w) (fun _ _ _ hh h => h.of_heap hh) own2 started (by kernel_rfl) Tryd.func4
    (ChangeSpec.witness_shaped (enc := enc) (C := Tryd.checked) (os := os) (X := fun w _ => laidMetH Tryd.prog Rows.replyTellsRow.laid w) false (World.laidAll Tryd.prog os Rows.replyTellsRow.laid) #[.int .i64 0, .slice none 0 0, .slice none 0 0] 8 (World.laidAll_os _ _ _) (World.shaped_of_ZipB (by kernel_rfl) (by kernel_rfl)) (by kernel_rfl) (by kernel_rfl) (by kernel_rfl) (laidMet_laidAll _ (by kernel_rfl) (by kernel_rfl))) ?_
  intro W base args ds gs before hval0 hW _ hsz hL _
  have hval : ∀ (j : Nat) t v, Tryd.f4.params[j]? = some t → args[j]? = some v → Value.okWide Tryd.prog W .any base t v := hval0
  have hW' := hW
  obtain ⟨p, q, hA0, hV, rfl, hfz, hnd⟩ := hW
  have hA : DataW.TrodAll enc Tryd.prog W 0 (fun _ => true) true Tryd.f4.params.toList args.toList ds p := hA0
  rw [Tryd.params4] at hA hval
  obtain ⟨v0, vs0, d0, ds0, p0, q0, hargs, rfl, rfl, t0, r0⟩ := trodAll_cons hA
  obtain ⟨v1, vs1, d1, ds1, p1, q1, rfl, rfl, rfl, t1, r1⟩ := trodAll_cons r0
  obtain ⟨v2, vs2, d2, ds2, p2, q2, rfl, rfl, rfl, t2, r2⟩ := trodAll_cons r1
  obtain ⟨rfl, rfl, rfl⟩ := trodAll_nil r2
  obtain rfl : args = #[v0, v1, v2] := by cases args; simp_all
  obtain ⟨rfl, rfl⟩ := trodVars_none hV
  obtain ⟨st, rfl, rfl, rfl, wst⟩ := open_int Tryd.underlying3 (hval 0 3 v0 rfl rfl) t0
  rw [Tryd.params4] at hsz
  obtain ⟨l, hl, hle, hll, _⟩ := arg_pairsW Tryd.underlying31 Tryd.underlying33 (by kernel_rfl) Tryd.underlying9 Tryd.underlying9 rfl rfl (by kernel_rfl) (by kernel_rfl) (hval 1 31 v1 rfl rfl) t1 (weights_at hsz (j := 1) rfl rfl)
  obtain ⟨body, hb, _, _, _⟩ := arg_bytes Tryd.underlying22 Tryd.underlying5 (by kernel_rfl) (hval 2 22 v2 rfl rfl) t2
  have hG := gg_of_laid hL
  have hmax : reachBytes ≤ 1000000000000000 := by decide
  have hll' : l.length ≤ reachBytes := Nat.le_trans (Nat.le_mul_of_pos_right _ (by rw [show Tryd.prog.bytesOf 33 = 32 by kernel_rfl]; omega)) hll
  have hrun := (law_spec hG st (s := absW W v1) (b := absW W v2) hl hb.cel (fun p hp => ⟨Nat.le_trans (hle p hp).1 hmax, Nat.le_trans (hle p hp).2 hmax⟩) (Nat.le_trans hll' hmax)).calls (by kernel_rfl) natR_ok (rel_world W) (vs := #[.int .i64 st, v1, v2])
    (by simp only [VRels]; exact ⟨_, _, rfl, absW_rel W (.int .i64 st), _, _, rfl, absW_rel W v1, _, _, rfl, absW_rel W v2, rfl⟩)
  refine hrun.mono fun e W' hx => ?_
  obtain ⟨ρ', v, H', u, _, rfl, rfl, R, hu⟩ := hx
  simp only [VRel] at hu
  subst hu
  exact ⟨_, rfl, law_post (tb := 4) (by kernel_rfl) (by kernel_rfl) (by kernel_rfl) (by kernel_rfl) rfl hW' rfl (by kernel_rfl) (by kernel_rfl) R.below⟩
theorem over : Rows.ReplyTellsSaid :=
  OpenClaim.holds_of_wide 4 Tryd.f4 rfl rfl rfl rfl rfl rfl rfl ⟨rfl, rfl, rfl, rfl, rfl⟩ rfl rfl rfl rfl rfl (by kernel_rfl) Tryd.func4 (by kernel_rfl)
    (of_decide_eq_true (by kernel_rfl)) (by unfold Func.isWrapper; first | (rw [if_pos (by decide +kernel)]; kernel_rfl) | (rw [if_neg (by decide +kernel)]; exact ⟨rfl, rfl⟩))
    (fun os started H enc _ => lifted os started H enc)
theorem proved : Rows.ReplyTellsCardSaid :=
  Claim7.holds_tied_plain_at .later [] [.data, .data, .data, .data, .pinned, .pinned] true Rows.replyTellsCard.stood.harness false
    over (fun _ h => by cases h) (by kernel_rfl) (fun _ h => by cases h) replyTells_row_tie rfl ⟨rfl, rfl⟩ (by kernel_rfl) rfl
    (fun f fn hf hfn => by
      obtain rfl : f = 4 := (Option.some.inj (Eq.trans (by kernel_rfl : some 4 = _) hf)).symm
      obtain rfl : fn = Tryd.f4 := (Option.some.inj (Tryd.func4.symm.trans hfn)).symm
      exact ⟨by kernel_rfl, fun j t ht => by
        rw [Tryd.params4] at ht
        have h3 : t = 3 ∨ t = 31 ∨ t = 22 := by
          rcases j with _ | _ | _ | j
          · left; simpa using ht.symm
          · right; left; simpa using ht.symm
          · right; right; simpa using ht.symm
          · simp at ht
        rcases h3 with rfl | rfl | rfl
        · exact (show Tryd.prog.wantsStandIn 3 = false by kernel_rfl)
        · exact (show Tryd.prog.wantsStandIn 31 = false by kernel_rfl)
        · exact (show Tryd.prog.wantsStandIn 22 = false by kernel_rfl)⟩)
    (by kernel_rfl)
#print axioms proved
end Go.Proofs.YthdkgakoogjoaaaDoor.replyTells
