/-
  No cell of these rows narrows 'for every input' (looked for: loops, veiled, ifaces, maps, wideKeys, modest, calm, conditions, laid).
  DERIVED. THE GIVEN ROWS OF THIS SEAT. 3 by the template 'for every input the law returns true; each argument reads behind the call as it read before'; 0 by the template 'total and deterministic' (their statements: YtakecdepecjehaaGreatTotals.lean).
  GIVEN WITH THE SEED: the statements are not yours to turn. If you find one false, say at which input.
  Laid BY PROGRAM, IN A SANDBOX (cutbox-rows.mjs): the forced cells as the released guide's own fill.sh prints them over the translation a9998be5910e8b4b… (all of the seat's roots in one cut). By AI agents, Wed Nov 11 2026. No macro, syntax, notation, axiom, sorry.
-/
import Derived.Test.YtakecdepecjehaaGreatChecked
import GoSem.Claim
import GoSem.ClaimJoined
import GoSem.ClaimMapViews
import Derived.JoinedTies
import Derived.KernelRfl
namespace Go.Proofs.YtakecdepecjehaaGreat
/- THE CELL 'sum', in the pinned program and in every row, IS THE sha256 OF THE DUMP (.gsa) THAT YtakecdepecjehaaGreatProg.lean LOADS. Nothing in Lean hashes anything: it is a label: what it is worth is what the hold of that sum in a sandbox is worth. -/
noncomputable def Tryz.pinned : Pinned := { name := "ytakecdepecjehaagreat", sum := "a9998be5910e8b4ba48eecb11018c55d6015dfa5acdd091642716e390aab68e7", checked := Tryz.checked }
namespace Rows
def none {H : Type} : Left H := { results := [], args := [] }

/-- 'lightwelllaw22.TraceNone': WHATEVER THE INPUT: true; the input reads as it did. -/
def traceNoneSpec : ChangeSpec := { name := "traceNone", fn := fun _ => fun
  | [d1, d2] => { results := [.lit (.bool true)], args := [d1, d2] }
  | _ => none }
def traceNoneRow : OpenClaim := { program := "ytakecdepecjehaagreat", sum := "a9998be5910e8b4ba48eecb11018c55d6015dfa5acdd091642716e390aab68e7", func := "lightwell/lightwelllaw22.TraceNone", spec := "traceNone", unfollowed := true, recurses := true, named := ["math/bits.divideError", "math/bits.overflowError"], plainKeys := false, apart := false }
def TraceNoneSaid : Prop := traceNoneRow.holds Tryz.pinned (OpenSpec.ofChange traceNoneSpec)

/-- ITS FALSE NEIGHBOUR: 'it returns false'. Refute it at one input. -/
def traceNoneWrong : ChangeSpec := { name := "traceNone", fn := fun _ => fun
  | [d1, d2] => { results := [.lit (.bool false)], args := [d1, d2] }
  | _ => none }
def TraceNoneWrongFalsely : Prop := traceNoneRow.holds Tryz.pinned (OpenSpec.ofChange traceNoneWrong)

/-- 'lightwelllaw23.ImageNone': WHATEVER THE INPUT: true; the input reads as it did. -/
def imageNoneSpec : ChangeSpec := { name := "imageNone", fn := fun _ => fun
  | [d1, d2] => { results := [.lit (.bool true)], args := [d1, d2] }
  | _ => none }
def imageNoneRow : OpenClaim := { program := "ytakecdepecjehaagreat", sum := "a9998be5910e8b4ba48eecb11018c55d6015dfa5acdd091642716e390aab68e7", func := "lightwell/lightwelllaw23.ImageNone", spec := "imageNone", unfollowed := true, recurses := true, named := ["math/bits.divideError", "math/bits.overflowError"], plainKeys := false, apart := false }
def ImageNoneSaid : Prop := imageNoneRow.holds Tryz.pinned (OpenSpec.ofChange imageNoneSpec)

/-- ITS FALSE NEIGHBOUR: 'it returns false'. Refute it at one input. -/
def imageNoneWrong : ChangeSpec := { name := "imageNone", fn := fun _ => fun
  | [d1, d2] => { results := [.lit (.bool false)], args := [d1, d2] }
  | _ => none }
def ImageNoneWrongFalsely : Prop := imageNoneRow.holds Tryz.pinned (OpenSpec.ofChange imageNoneWrong)

/-- 'lightwelllaw26.SchedNone': WHATEVER THE INPUT: true; the input reads as it did. -/
def schedNoneSpec : ChangeSpec := { name := "schedNone", fn := fun _ => fun
  | [d1, d2] => { results := [.lit (.bool true)], args := [d1, d2] }
  | _ => none }
def schedNoneRow : OpenClaim := { program := "ytakecdepecjehaagreat", sum := "a9998be5910e8b4ba48eecb11018c55d6015dfa5acdd091642716e390aab68e7", func := "lightwell/lightwelllaw26.SchedNone", spec := "schedNone", unfollowed := true, recurses := true, named := ["math/bits.divideError", "math/bits.overflowError"], plainKeys := false, apart := false }
def SchedNoneSaid : Prop := schedNoneRow.holds Tryz.pinned (OpenSpec.ofChange schedNoneSpec)

/-- ITS FALSE NEIGHBOUR: 'it returns false'. Refute it at one input. -/
def schedNoneWrong : ChangeSpec := { name := "schedNone", fn := fun _ => fun
  | [d1, d2] => { results := [.lit (.bool false)], args := [d1, d2] }
  | _ => none }
def SchedNoneWrongFalsely : Prop := schedNoneRow.holds Tryz.pinned (OpenSpec.ofChange schedNoneWrong)

/- THE SECOND FORM. 'bulk': how many values and letters a reading holds, each counted each time it is reached (what is shared counts as often as it is met; a slice's spare places count too). A statement '..UptoSaid' is the law's where the arguments, and the package variables that the reading takes, are together of bulk at most 1048576: NARROWER than '..Said'. Prove '..Said' where nothing that the law and all that it calls make is longer than what came in: it says more and counts as full. Else prove '..UptoSaid'. A law counts once. -/
mutual
def uptoBulk {H : Type} : DataW H → Nat
  | .lit (.string bytes) => bytes.length + 1
  | .lit _ => 1
  | .nil => 1
  | .ptr d => uptoBulk d + 1
  | .slice elems spare => uptoBulkAll elems + uptoBulkAll spare + 1
  | .agg parts => uptoBulkAll parts + 1
  | .iface _ d => uptoBulk d + 1
  | .map entries => uptoBulkEntries entries + 1
  | .held _ => 1
def uptoBulkAll {H : Type} : List (DataW H) → Nat
  | [] => 0
  | d :: r => uptoBulk d + uptoBulkAll r
def uptoBulkEntries {H : Type} : List (Lit × DataW H) → Nat
  | [] => 0
  | x :: r => uptoBulkEntry x + uptoBulkEntries r
def uptoBulkEntry {H : Type} : Lit × DataW H → Nat
  | (.string bytes, d) => bytes.length + uptoBulk d + 1
  | (_, d) => uptoBulk d + 1
 end
def uptoSmall : (H : Type) → List (DataW H) → Bool := fun _ ds => decide (uptoBulkAll ds ≤ 1048576)
def OpenSpec.upto (s : _root_.Go.ChangeSpec) : _root_.Go.OpenSpec := { _root_.Go.OpenSpec.ofChange s with cond := some uptoSmall }

/-- 'lightwelllaw22.TraceNone', WHERE WHAT IT READS IS OF BULK AT MOST 1048576: true; the input reads as it did. -/
def traceNoneUptoRow : OpenClaim := { program := "ytakecdepecjehaagreat", sum := "a9998be5910e8b4ba48eecb11018c55d6015dfa5acdd091642716e390aab68e7", func := "lightwell/lightwelllaw22.TraceNone", spec := "traceNone", unfollowed := true, recurses := true, named := ["math/bits.divideError", "math/bits.overflowError"], plainKeys := false, apart := false, narrowed := true }
def TraceNoneUptoSaid : Prop := traceNoneUptoRow.holds Tryz.pinned (OpenSpec.upto traceNoneSpec)

/-- 'lightwelllaw23.ImageNone', WHERE WHAT IT READS IS OF BULK AT MOST 1048576: true; the input reads as it did. -/
def imageNoneUptoRow : OpenClaim := { program := "ytakecdepecjehaagreat", sum := "a9998be5910e8b4ba48eecb11018c55d6015dfa5acdd091642716e390aab68e7", func := "lightwell/lightwelllaw23.ImageNone", spec := "imageNone", unfollowed := true, recurses := true, named := ["math/bits.divideError", "math/bits.overflowError"], plainKeys := false, apart := false, narrowed := true }
def ImageNoneUptoSaid : Prop := imageNoneUptoRow.holds Tryz.pinned (OpenSpec.upto imageNoneSpec)

/-- 'lightwelllaw26.SchedNone', WHERE WHAT IT READS IS OF BULK AT MOST 1048576: true; the input reads as it did. -/
def schedNoneUptoRow : OpenClaim := { program := "ytakecdepecjehaagreat", sum := "a9998be5910e8b4ba48eecb11018c55d6015dfa5acdd091642716e390aab68e7", func := "lightwell/lightwelllaw26.SchedNone", spec := "schedNone", unfollowed := true, recurses := true, named := ["math/bits.divideError", "math/bits.overflowError"], plainKeys := false, apart := false, narrowed := true }
def SchedNoneUptoSaid : Prop := schedNoneUptoRow.holds Tryz.pinned (OpenSpec.upto schedNoneSpec)

end Rows
end Go.Proofs.YtakecdepecjehaaGreat
