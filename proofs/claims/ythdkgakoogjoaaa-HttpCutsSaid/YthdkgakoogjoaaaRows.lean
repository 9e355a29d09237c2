/-
  No cell of these rows narrows 'for every input' (looked for: loops, veiled, ifaces, maps, wideKeys, modest, calm, conditions, laid).
  DERIVED. THE GIVEN ROWS OF THIS SEAT. 3 by the template 'for every input the law returns true; each argument reads behind the call as it read before'; 0 by the template 'total and deterministic' (their statements: YthdkgakoogjoaaaTotals.lean).
  GIVEN WITH THE SEED: the statements are not yours to turn. If you find one false, say at which input.
  Laid BY PROGRAM, IN A SANDBOX (cutbox-rows.mjs): the forced cells as the released guide's own fill.sh prints them over the translation 571a9c7e6fa95a56… (all of the seat's roots in one cut). By AI agents, Wed Nov 11 2026. No macro, syntax, notation, axiom, sorry.
-/
import Derived.Test.YthdkgakoogjoaaaChecked
import GoSem.Claim
import GoSem.ClaimJoined
import GoSem.ClaimMapViews
import Derived.JoinedTies
import Derived.KernelRfl
namespace Go.Proofs.Ythdkgakoogjoaaa
/- THE CELL 'sum', in the pinned program and in every row, IS THE sha256 OF THE DUMP (.gsa) THAT YthdkgakoogjoaaaProg.lean LOADS. Nothing in Lean hashes anything: it is a label: what it is worth is what the hold of that sum in a sandbox is worth. -/
noncomputable def Try.pinned : Pinned := { name := "ythdkgakoogjoaaa", sum := "571a9c7e6fa95a568f090bd4f447b264ad22b772b56fef8e43edcbff8157fe01", checked := Try.checked }
namespace Rows
def none {H : Type} : Left H := { results := [], args := [] }

/-- 'lightwelllaw27.HttpCuts': WHATEVER THE INPUT: true; the input reads as it did. -/
def httpCutsSpec : ChangeSpec := { name := "httpCuts", fn := fun _ => fun
  | [d1, d2, d3] => { results := [.lit (.bool true)], args := [d1, d2, d3] }
  | _ => none }
def httpCutsRow : OpenClaim := { program := "ythdkgakoogjoaaa", sum := "571a9c7e6fa95a568f090bd4f447b264ad22b772b56fef8e43edcbff8157fe01", func := "lightwell/lightwelllaw27.HttpCuts", spec := "httpCuts", inPlace := ["internal/bytealg.IndexByteString"], unfollowed := true, recurses := true, apart := false }
def HttpCutsSaid : Prop := httpCutsRow.holds Try.pinned (OpenSpec.ofChange httpCutsSpec)

/-- ITS FALSE NEIGHBOUR: 'it returns false'. Refute it at one input. -/
def httpCutsWrong : ChangeSpec := { name := "httpCuts", fn := fun _ => fun
  | [d1, d2, d3] => { results := [.lit (.bool false)], args := [d1, d2, d3] }
  | _ => none }
def HttpCutsWrongFalsely : Prop := httpCutsRow.holds Try.pinned (OpenSpec.ofChange httpCutsWrong)

/-- 'lightwelllaw27.HttpNone': WHATEVER THE INPUT: true; the input reads as it did. -/
def httpNoneSpec : ChangeSpec := { name := "httpNone", fn := fun _ => fun
  | [d] => { results := [.lit (.bool true)], args := [d] }
  | _ => none }
def httpNoneRow : OpenClaim := { program := "ythdkgakoogjoaaa", sum := "571a9c7e6fa95a568f090bd4f447b264ad22b772b56fef8e43edcbff8157fe01", func := "lightwell/lightwelllaw27.HttpNone", spec := "httpNone", inPlace := ["internal/bytealg.IndexByteString"], unfollowed := true, recurses := true, apart := false }
def HttpNoneSaid : Prop := httpNoneRow.holds Try.pinned (OpenSpec.ofChange httpNoneSpec)

/-- ITS FALSE NEIGHBOUR: 'it returns false'. Refute it at one input. -/
def httpNoneWrong : ChangeSpec := { name := "httpNone", fn := fun _ => fun
  | [d] => { results := [.lit (.bool false)], args := [d] }
  | _ => none }
def HttpNoneWrongFalsely : Prop := httpNoneRow.holds Try.pinned (OpenSpec.ofChange httpNoneWrong)

/-- 'lightwelllaw27.HttpNumbers': WHATEVER THE INPUT: true; the input reads as it did. -/
def httpNumbersSpec : ChangeSpec := { name := "httpNumbers", fn := fun _ => fun
  | [] => { results := [.lit (.bool true)], args := [] }
  | _ => none }
def httpNumbersRow : OpenClaim := { program := "ythdkgakoogjoaaa", sum := "571a9c7e6fa95a568f090bd4f447b264ad22b772b56fef8e43edcbff8157fe01", func := "lightwell/lightwelllaw27.HttpNumbers", spec := "httpNumbers", inPlace := ["internal/bytealg.IndexByteString", "internal/abi.NoEscape", "internal/bytealg.MakeNoZero"], unfollowed := true, recurses := true, apart := false }
def HttpNumbersSaid : Prop := httpNumbersRow.holds Try.pinned (OpenSpec.ofChange httpNumbersSpec)

/-- ITS FALSE NEIGHBOUR: 'it returns false'. Refute it at one input. -/
def httpNumbersWrong : ChangeSpec := { name := "httpNumbers", fn := fun _ => fun
  | [] => { results := [.lit (.bool false)], args := [] }
  | _ => none }
def HttpNumbersWrongFalsely : Prop := httpNumbersRow.holds Try.pinned (OpenSpec.ofChange httpNumbersWrong)

/- THE SECOND FORM. 'bulk': how many values and letters a reading holds, each counted each time it is reached (what is shared counts as often as it is met; a slice's spare places count too). A statement '..UptoSaid' is the law's where the arguments, and the package variables that the reading takes, are together of bulk at most 1048576: NARROWER than '..Said'. Prove '..Said' where nothing that the law and all that it calls make is longer than what came in: it says more and counts as full. Else prove '..UptoSaid'. A law counts once. -/
mutual
def uptoBulk {H : Type} : DataW H → Nat
  | .lit (.string bytes) => bytes.length + 1
  | .lit _ => 1
  | .nil => 1
  | .ptr d => uptoBulk d + 1
  | .slice elems spare => uptoBulkAll elems + uptoBulkAll spare + 1
  | .agg parts => uptoBulkAll parts + 1
  | .iface _ d => uptoBulk d + 1
  | .map entries => uptoBulkEntries entries + 1
  | .held _ => 1
def uptoBulkAll {H : Type} : List (DataW H) → Nat
  | [] => 0
  | d :: r => uptoBulk d + uptoBulkAll r
def uptoBulkEntries {H : Type} : List (Lit × DataW H) → Nat
  | [] => 0
  | x :: r => uptoBulkEntry x + uptoBulkEntries r
def uptoBulkEntry {H : Type} : Lit × DataW H → Nat
  | (.string bytes, d) => bytes.length + uptoBulk d + 1
  | (_, d) => uptoBulk d + 1
 end
def uptoSmall : (H : Type) → List (DataW H) → Bool := fun _ ds => decide (uptoBulkAll ds ≤ 1048576)
def OpenSpec.upto (s : _root_.Go.ChangeSpec) : _root_.Go.OpenSpec := { _root_.Go.OpenSpec.ofChange s with cond := some uptoSmall }

/-- 'lightwelllaw27.HttpCuts', WHERE WHAT IT READS IS OF BULK AT MOST 1048576: true; the input reads as it did. -/
def httpCutsUptoRow : OpenClaim := { program := "ythdkgakoogjoaaa", sum := "571a9c7e6fa95a568f090bd4f447b264ad22b772b56fef8e43edcbff8157fe01", func := "lightwell/lightwelllaw27.HttpCuts", spec := "httpCuts", inPlace := ["internal/bytealg.IndexByteString"], unfollowed := true, recurses := true, apart := false, narrowed := true }
def HttpCutsUptoSaid : Prop := httpCutsUptoRow.holds Try.pinned (OpenSpec.upto httpCutsSpec)

/-- 'lightwelllaw27.HttpNone', WHERE WHAT IT READS IS OF BULK AT MOST 1048576: true; the input reads as it did. -/
def httpNoneUptoRow : OpenClaim := { program := "ythdkgakoogjoaaa", sum := "571a9c7e6fa95a568f090bd4f447b264ad22b772b56fef8e43edcbff8157fe01", func := "lightwell/lightwelllaw27.HttpNone", spec := "httpNone", inPlace := ["internal/bytealg.IndexByteString"], unfollowed := true, recurses := true, apart := false, narrowed := true }
def HttpNoneUptoSaid : Prop := httpNoneUptoRow.holds Try.pinned (OpenSpec.upto httpNoneSpec)

/-- 'lightwelllaw27.HttpNumbers', WHERE WHAT IT READS IS OF BULK AT MOST 1048576: true; the input reads as it did. -/
def httpNumbersUptoRow : OpenClaim := { program := "ythdkgakoogjoaaa", sum := "571a9c7e6fa95a568f090bd4f447b264ad22b772b56fef8e43edcbff8157fe01", func := "lightwell/lightwelllaw27.HttpNumbers", spec := "httpNumbers", inPlace := ["internal/bytealg.IndexByteString", "internal/abi.NoEscape", "internal/bytealg.MakeNoZero"], unfollowed := true, recurses := true, apart := false, narrowed := true }
def HttpNumbersUptoSaid : Prop := httpNumbersUptoRow.holds Try.pinned (OpenSpec.upto httpNumbersSpec)

end Rows
end Go.Proofs.Ythdkgakoogjoaaa
