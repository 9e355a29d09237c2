/-
  No cell of these rows narrows 'for every input' (looked for: loops, veiled, ifaces, maps, wideKeys, modest, calm, conditions, laid).
  DERIVED. THE GIVEN ROWS OF THIS SEAT. 3 by the template 'for every input the law returns true; each argument reads behind the call as it read before'; 0 by the template 'total and deterministic' (their statements: YtbmacgjajnokdaaGreatTotals.lean).
  GIVEN WITH THE SEED: the statements are not yours to turn. If you find one false, say at which input.
  Laid BY PROGRAM, IN A SANDBOX (cutbox-rows.mjs): the forced cells as the released guide's own fill.sh prints them over the translation a302b9574f355e6b… (all of the seat's roots in one cut). By AI agents, Wed Nov 11 2026. No macro, syntax, notation, axiom, sorry.
-/
import Derived.Test.YtbmacgjajnokdaaGreatChecked
import GoSem.Claim
import GoSem.ClaimJoined
import GoSem.ClaimMapViews
import Derived.JoinedTies
import Derived.KernelRfl
namespace Go.Proofs.YtbmacgjajnokdaaGreat
/- THE CELL 'sum', in the pinned program and in every row, IS THE sha256 OF THE DUMP (.gsa) THAT YtbmacgjajnokdaaGreatProg.lean LOADS. Nothing in Lean hashes anything: it is a label: what it is worth is what the hold of that sum in a sandbox is worth. -/
noncomputable def Tryz.pinned : Pinned := { name := "ytbmacgjajnokdaagreat", sum := "a302b9574f355e6b794c0091aff37de7de7df845b095a1ee6a0ccb36b14b0087", checked := Tryz.checked }
namespace Rows
def none {H : Type} : Left H := { results := [], args := [] }

/-- 'lightwelllaw26.SchedTells': WHATEVER THE INPUT: true; the input reads as it did. -/
def schedTellsSpec : ChangeSpec := { name := "schedTells", fn := fun _ => fun
  | [d1, d2, d3] => { results := [.lit (.bool true)], args := [d1, d2, d3] }
  | _ => none }
def schedTellsRow : OpenClaim := { program := "ytbmacgjajnokdaagreat", sum := "a302b9574f355e6b794c0091aff37de7de7df845b095a1ee6a0ccb36b14b0087", func := "lightwell/lightwelllaw26.SchedTells", spec := "schedTells", unfollowed := true, recurses := true, named := ["math/bits.divideError", "math/bits.overflowError"], plainKeys := false, apart := false }
def SchedTellsSaid : Prop := schedTellsRow.holds Tryz.pinned (OpenSpec.ofChange schedTellsSpec)

/-- ITS FALSE NEIGHBOUR: 'it returns false'. Refute it at one input. -/
def schedTellsWrong : ChangeSpec := { name := "schedTells", fn := fun _ => fun
  | [d1, d2, d3] => { results := [.lit (.bool false)], args := [d1, d2, d3] }
  | _ => none }
def SchedTellsWrongFalsely : Prop := schedTellsRow.holds Tryz.pinned (OpenSpec.ofChange schedTellsWrong)

/-- 'lightwelllaw26.SchedAlone': WHATEVER THE INPUT: true; the input reads as it did. -/
def schedAloneSpec : ChangeSpec := { name := "schedAlone", fn := fun _ => fun
  | [d1, d2, d3] => { results := [.lit (.bool true)], args := [d1, d2, d3] }
  | _ => none }
def schedAloneRow : OpenClaim := { program := "ytbmacgjajnokdaagreat", sum := "a302b9574f355e6b794c0091aff37de7de7df845b095a1ee6a0ccb36b14b0087", func := "lightwell/lightwelllaw26.SchedAlone", spec := "schedAlone", unfollowed := true, recurses := true, named := ["math/bits.divideError", "math/bits.overflowError"], plainKeys := false, apart := false }
def SchedAloneSaid : Prop := schedAloneRow.holds Tryz.pinned (OpenSpec.ofChange schedAloneSpec)

/-- ITS FALSE NEIGHBOUR: 'it returns false'. Refute it at one input. -/
def schedAloneWrong : ChangeSpec := { name := "schedAlone", fn := fun _ => fun
  | [d1, d2, d3] => { results := [.lit (.bool false)], args := [d1, d2, d3] }
  | _ => none }
def SchedAloneWrongFalsely : Prop := schedAloneRow.holds Tryz.pinned (OpenSpec.ofChange schedAloneWrong)

/-- 'lightwelllaw26.SchedBound': WHATEVER THE INPUT: true; the input reads as it did. -/
def schedBoundSpec : ChangeSpec := { name := "schedBound", fn := fun _ => fun
  | [d1, d2, d3] => { results := [.lit (.bool true)], args := [d1, d2, d3] }
  | _ => none }
def schedBoundRow : OpenClaim := { program := "ytbmacgjajnokdaagreat", sum := "a302b9574f355e6b794c0091aff37de7de7df845b095a1ee6a0ccb36b14b0087", func := "lightwell/lightwelllaw26.SchedBound", spec := "schedBound", unfollowed := true, recurses := true, named := ["math/bits.divideError", "math/bits.overflowError"], plainKeys := false, apart := false }
def SchedBoundSaid : Prop := schedBoundRow.holds Tryz.pinned (OpenSpec.ofChange schedBoundSpec)

/-- ITS FALSE NEIGHBOUR: 'it returns false'. Refute it at one input. -/
def schedBoundWrong : ChangeSpec := { name := "schedBound", fn := fun _ => fun
  | [d1, d2, d3] => { results := [.lit (.bool false)], args := [d1, d2, d3] }
  | _ => none }
def SchedBoundWrongFalsely : Prop := schedBoundRow.holds Tryz.pinned (OpenSpec.ofChange schedBoundWrong)

/- THE SECOND FORM. 'bulk': how many values and letters a reading holds, each counted each time it is reached (what is shared counts as often as it is met; a slice's spare places count too). A statement '..UptoSaid' is the law's where the arguments, and the package variables that the reading takes, are together of bulk at most 1048576: NARROWER than '..Said'. Prove '..Said' where nothing that the law and all that it calls make is longer than what came in: it says more and counts as full. Else prove '..UptoSaid'. A law counts once. -/
mutual
def uptoBulk {H : Type} : DataW H → Nat
  | .lit (.string bytes) => bytes.length + 1
  | .lit _ => 1
  | .nil => 1
  | .ptr d => uptoBulk d + 1
  | .slice elems spare => uptoBulkAll elems + uptoBulkAll spare + 1
  | .agg parts => uptoBulkAll parts + 1
  | .iface _ d => uptoBulk d + 1
  | .map entries => uptoBulkEntries entries + 1
  | .held _ => 1
def uptoBulkAll {H : Type} : List (DataW H) → Nat
  | [] => 0
  | d :: r => uptoBulk d + uptoBulkAll r
def uptoBulkEntries {H : Type} : List (Lit × DataW H) → Nat
  | [] => 0
  | x :: r => uptoBulkEntry x + uptoBulkEntries r
def uptoBulkEntry {H : Type} : Lit × DataW H → Nat
  | (.string bytes, d) => bytes.length + uptoBulk d + 1
  | (_, d) => uptoBulk d + 1
 end
def uptoSmall : (H : Type) → List (DataW H) → Bool := fun _ ds => decide (uptoBulkAll ds ≤ 1048576)
def OpenSpec.upto (s : _root_.Go.ChangeSpec) : _root_.Go.OpenSpec := { _root_.Go.OpenSpec.ofChange s with cond := some uptoSmall }

/-- 'lightwelllaw26.SchedTells', WHERE WHAT IT READS IS OF BULK AT MOST 1048576: true; the input reads as it did. -/
def schedTellsUptoRow : OpenClaim := { program := "ytbmacgjajnokdaagreat", sum := "a302b9574f355e6b794c0091aff37de7de7df845b095a1ee6a0ccb36b14b0087", func := "lightwell/lightwelllaw26.SchedTells", spec := "schedTells", unfollowed := true, recurses := true, named := ["math/bits.divideError", "math/bits.overflowError"], plainKeys := false, apart := false, narrowed := true }
def SchedTellsUptoSaid : Prop := schedTellsUptoRow.holds Tryz.pinned (OpenSpec.upto schedTellsSpec)

/-- 'lightwelllaw26.SchedAlone', WHERE WHAT IT READS IS OF BULK AT MOST 1048576: true; the input reads as it did. -/
def schedAloneUptoRow : OpenClaim := { program := "ytbmacgjajnokdaagreat", sum := "a302b9574f355e6b794c0091aff37de7de7df845b095a1ee6a0ccb36b14b0087", func := "lightwell/lightwelllaw26.SchedAlone", spec := "schedAlone", unfollowed := true, recurses := true, named := ["math/bits.divideError", "math/bits.overflowError"], plainKeys := false, apart := false, narrowed := true }
def SchedAloneUptoSaid : Prop := schedAloneUptoRow.holds Tryz.pinned (OpenSpec.upto schedAloneSpec)

/-- 'lightwelllaw26.SchedBound', WHERE WHAT IT READS IS OF BULK AT MOST 1048576: true; the input reads as it did. -/
def schedBoundUptoRow : OpenClaim := { program := "ytbmacgjajnokdaagreat", sum := "a302b9574f355e6b794c0091aff37de7de7df845b095a1ee6a0ccb36b14b0087", func := "lightwell/lightwelllaw26.SchedBound", spec := "schedBound", unfollowed := true, recurses := true, named := ["math/bits.divideError", "math/bits.overflowError"], plainKeys := false, apart := false, narrowed := true }
def SchedBoundUptoSaid : Prop := schedBoundUptoRow.holds Tryz.pinned (OpenSpec.upto schedBoundSpec)

end Rows
end Go.Proofs.YtbmacgjajnokdaaGreat
