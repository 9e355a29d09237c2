/- ReplyBack: the law returns true and its arguments read as before, where what comes in is of bulk at most 1048576. Condition: the tables of Go's library that the row lists hold what the program's text lays (the card ties them). -/
import Derived.Test.YticgfaajkcdfaaaGreatDoorCards
import Derived.Test.YticgfaajkcdfaaaGreatDoorTie
import Derived.Deep.DeepHandedRow
import Derived.Deep.DeepWitnessRowRef
import Derived.OpenShut
import Derived.JoinedOf
import Derived.ChangeVars
import Derived.ChangeMaps5
import Derived.SevenTiedAt
import Derived.Test.YticgfaajkcdfaaaGreatDoorP13
set_option linter.unusedSimpArgs false
set_option linter.unusedVariables false
set_option linter.unnecessarySimpa false
namespace Go.Proofs.YticgfaajkcdfaaaGreatDoor.replyBack
open Go.ChangeShapes Go.WideShapes Go.ChangeAt Go.RowKit
open Go.Abs (VRels VRel law_post)
open Go.Abs.S (absW absW_rel rel_world heapW arg_pairsB arg_bytes arg_ints)
open Go.Proofs.Ht (natX natX_ok law_spec prem_laid gx_world glo_world b64_name laidB)
set_option linter.unusedVariables false
theorem bulk_one {H : Type} {d : DataW H} {l : List (DataW H)} (h : d ∈ l) : Rows.uptoBulk d ≤ Rows.uptoBulkAll l := by
  induction l with
  | nil => cases h
  | cons x r ih =>
    simp only [Rows.uptoBulkAll]
    cases List.mem_cons.1 h with
    | inl e => subst e; omega
    | inr e => have := ih e; omega
theorem bulk_pairs {H : Type} {ds : List (DataW H)} (hk : Rows.uptoSmall H ds = true) {d : DataW H} (hd : d ∈ ds) : ∀ els sp, d = .slice els sp → ∀ (i : Nat) (s u : List UInt8), els[i]? = some (.agg [.lit (.string s), .lit (.string u)]) → s.length ≤ 1000000000 ∧ u.length ≤ 1000000000 := by
  intro els sp he i s u hi
  have h1 : Rows.uptoBulkAll ds ≤ 1048576 := of_decide_eq_true hk
  have h2 := bulk_one hd
  subst he
  have h3 := bulk_one (List.mem_of_getElem? hi)
  simp only [Rows.uptoBulk, Rows.uptoBulkAll] at h2 h3
  exact ⟨by omega, by omega⟩
theorem own : ownKnob Tryz.prog.godebug = none := by kernel_rfl
noncomputable abbrev noArgs : Array Value := #[.int .i64 0, .slice none 0 0, .slice none 0 0, .slice none 0 0, .slice none 0 0]
set_option maxRecDepth 100000 in
theorem reads (os : Os) {H : Type} (enc : TypeId × Value → H) : ∃ places, DataW.whole enc Tryz.prog ((World.laidAll Tryz.prog os laidB).forCall (fun _ _ => 0) ⟨#[], noArgs, []⟩).memory Tryz.f3.params.toList Rows.replyBackSpec.vars false noArgs.toList 8 = some ([.lit (.int .i64 0), .nil, .nil, .nil, .nil], [], places) :=
  ⟨[], by kernel_rfl⟩
set_option maxRecDepth 100000 in
theorem liftedUpto (os : Os) (started : os.Started) (H : Type) (enc : TypeId × Value → H) (F : Stop.Interp) :
    ReturnsInHanded {} Tryz.checked os 3 .any ((Rows.OpenSpec.upto Rows.replyBackSpec).preRow enc Tryz.prog Tryz.f3 Rows.replyBackUptoRow.domain false Rows.replyBackUptoRow.laid) (((Rows.OpenSpec.upto Rows.replyBackSpec).at F).post enc Tryz.prog Tryz.f3 false true false false) := by
  obtain ⟨places, hx⟩ := reads os enc
  refine returnsInHanded_of_row (C := Tryz.checked) (s := Rows.OpenSpec.upto Rows.replyBackSpec) own started (by kernel_rfl) Tryz.func3
    (witness_row_atRef (enc := enc) (C := Tryz.checked) false (World.laidAll Tryz.prog os laidB) noArgs (World.laidAll_os _ _ _) (by kernel_rfl) (by kernel_rfl) (by kernel_rfl)
      (OpenSpec.preRow_of_cond 8 hx (by kernel_rfl) (fun k hk => by cases hk; kernel_rfl) (by kernel_rfl) (laidMet_laidAll _ (by kernel_rfl) (by kernel_rfl)))) ?_
  intro W base args ds gs before hval0 hW _ hcond _ hL hSh _
  have hval : ∀ (j : Nat) t v, Tryz.f3.params[j]? = some t → args[j]? = some v → Value.okWide Tryz.prog W .any base t v := hval0
  have hW' := hW
  obtain ⟨p, q, hA0, hV, rfl, hfz, hnd⟩ := hW
  have hA : DataW.TrodAll enc Tryz.prog W 0 (fun _ => true) true Tryz.f3.params.toList args.toList ds p := hA0
  rw [Tryz.params3] at hA hval
  obtain ⟨v0, vs0, d0, ds0, p0, q0, hargs, rfl, rfl, t0, r0⟩ := trodAll_cons hA
  obtain ⟨v1, vs1, d1, ds1, p1, q1, rfl, rfl, rfl, t1, r1⟩ := trodAll_cons r0
  obtain ⟨v2, vs2, d2, ds2, p2, q2, rfl, rfl, rfl, t2, r2⟩ := trodAll_cons r1
  obtain ⟨v3, vs3, d3, ds3, p3, q3, rfl, rfl, rfl, t3, r3⟩ := trodAll_cons r2
  obtain ⟨v4, vs4, d4, ds4, p4, q4, rfl, rfl, rfl, t4, r4⟩ := trodAll_cons r3
  obtain ⟨rfl, rfl, rfl⟩ := trodAll_nil r4
  obtain rfl : args = #[v0, v1, v2, v3, v4] := by cases args; simp_all
  obtain ⟨rfl, rfl⟩ := trodVars_none hV
  have hk := hcond _ rfl
  obtain ⟨st, rfl, rfl, rfl, wst⟩ := open_int Tryz.underlying3 (hval 0 3 v0 rfl rfl) t0
  obtain ⟨l, hl, hle, _⟩ := arg_pairsB Tryz.underlying22 Tryz.underlying28 (by kernel_rfl) Tryz.underlying9 Tryz.underlying9 rfl rfl (by kernel_rfl) (by kernel_rfl) (hval 1 22 v1 rfl rfl) t1 (bulk_pairs hk (by simp))
  obtain ⟨body, hb, _, _, _⟩ := arg_bytes Tryz.underlying23 Tryz.underlying5 (by kernel_rfl) (hval 2 23 v2 rfl rfl) t2
  obtain ⟨cs, hc, _⟩ := arg_ints Tryz.underlying24 Tryz.underlying3 (by kernel_rfl) (hval 3 24 v3 rfl rfl) t3
  obtain ⟨tr, ht, hte, _⟩ := arg_pairsB Tryz.underlying22 Tryz.underlying28 (by kernel_rfl) Tryz.underlying9 Tryz.underlying9 rfl rfl (by kernel_rfl) (by kernel_rfl) (hval 4 22 v4 rfl rfl) t4 (bulk_pairs hk (by simp))
  obtain ⟨hP, hB⟩ := prem_laid hL hSh
  obtain ⟨hB1, hB2⟩ := glo_world b64_name hB
  have hrun := (law_spec (gx_world hP) hB1 hB2 (st := st) hl hb hc ht hle hte).calls (by kernel_rfl) natX_ok (rel_world W) (vs := #[.int .i64 st, v1, v2, v3, v4])
    (by simp only [VRels]; exact ⟨_, _, rfl, absW_rel W (.int .i64 st), _, _, rfl, absW_rel W v1, _, _, rfl, absW_rel W v2, _, _, rfl, absW_rel W v3, _, _, rfl, absW_rel W v4, rfl⟩)
  refine hrun.mono fun e W' hx => ?_
  obtain ⟨ρ', v, H', u, _, rfl, rfl, R, hu⟩ := hx
  simp only [VRel] at hu
  subst hu
  exact ⟨_, rfl, law_post (tb := 4) (by kernel_rfl) (by kernel_rfl) (by kernel_rfl) (by kernel_rfl) rfl hW' rfl (by kernel_rfl) (by kernel_rfl) R.below⟩
theorem saidUpto : Rows.ReplyBackUptoSaid :=
  OpenClaim.holds_of_cond 3 Tryz.f3 rfl rfl rfl rfl rfl rfl rfl ⟨rfl, rfl, rfl, rfl, rfl⟩ rfl rfl rfl rfl rfl (by kernel_rfl) Tryz.func3 (by kernel_rfl)
    (of_decide_eq_true (by kernel_rfl)) (by unfold Func.isWrapper; first | (rw [if_pos (by decide +kernel)]; kernel_rfl) | (rw [if_neg (by decide +kernel)]; exact ⟨rfl, rfl⟩))
    (fun os started H enc _ F => by rw [OpenClaim.pre_eq_preRow]; exact liftedUpto os started H enc F)
theorem plain (f : FuncId) (fn : Func) (hf : Tryz.pinned.checked.prog.funcNamed "lightwell/lightwelllaw28.ReplyBack" = some f) (hfn : Tryz.pinned.checked.prog.funcs[f]? = some fn) :
    false = Tryz.pinned.checked.prog.looks [] ∧ ∀ (j : Nat) t, fn.params[j]? = some t → Tryz.pinned.checked.prog.wantsStandIn t = false := by
  obtain rfl : f = 3 := Option.some.inj ((show Tryz.prog.funcNamed "lightwell/lightwelllaw28.ReplyBack" = some 3 by kernel_rfl).symm.trans hf) |>.symm
  obtain rfl : fn = Tryz.f3 := (Option.some.inj (Tryz.func3.symm.trans hfn)).symm
  refine ⟨by kernel_rfl, fun j t ht => ?_⟩
  rw [Tryz.params3] at ht
  have h3 : t = 3 ∨ t = 22 ∨ t = 23 ∨ t = 24 := by
    rcases j with _ | _ | _ | _ | _ | j
    · left; simpa using ht.symm
    · right; left; simpa using ht.symm
    · right; right; left; simpa using ht.symm
    · right; right; right; simpa using ht.symm
    · right; left; simpa using ht.symm
    · simp at ht
  rcases h3 with rfl | rfl | rfl | rfl
  · exact (show Tryz.prog.wantsStandIn 3 = false by kernel_rfl)
  · exact (show Tryz.prog.wantsStandIn 22 = false by kernel_rfl)
  · exact (show Tryz.prog.wantsStandIn 23 = false by kernel_rfl)
  · exact (show Tryz.prog.wantsStandIn 24 = false by kernel_rfl)
theorem proved : Rows.ReplyBackUptoCardSaid :=
  Claim7.holds_tied_plain_at .later [] _ _ _ _ saidUpto (fun _ h => by cases h) (by kernel_rfl) (fun _ h => by cases h) replyBackUpto_row_tie rfl ⟨rfl, rfl⟩ (by kernel_rfl) rfl plain (by kernel_rfl)
#print axioms proved
end Go.Proofs.YticgfaajkcdfaaaGreatDoor.replyBack
