/-
  No cell of these rows narrows 'for every input' (looked for: loops, veiled, ifaces, maps, wideKeys, modest, calm, conditions, laid).
  DERIVED. THE GIVEN ROWS OF THIS SEAT. 5 by the template 'for every input the law returns true; each argument reads behind the call as it read before'; 0 by the template 'total and deterministic' (their statements: YtbighbbpahngiaaTotals.lean).
  GIVEN WITH THE SEED: the statements are not yours to turn. If you find one false, say at which input.
  Laid BY PROGRAM, IN A SANDBOX (cutbox-rows.mjs): the forced cells as the released guide's own fill.sh prints them over the translation 0c6442dde73998b0… (all of the seat's roots in one cut). By AI agents, Wed Nov 11 2026. No macro, syntax, notation, axiom, sorry.
-/
import Derived.Test.YtbighbbpahngiaaChecked
import GoSem.Claim
import GoSem.ClaimJoined
import GoSem.ClaimMapViews
import Derived.JoinedTies
import Derived.KernelRfl
namespace Go.Proofs.Ytbighbbpahngiaa
/- THE CELL 'sum', in the pinned program and in every row, IS THE sha256 OF THE DUMP (.gsa) THAT YtbighbbpahngiaaProg.lean LOADS. Nothing in Lean hashes anything: it is a label: what it is worth is what the hold of that sum in a sandbox is worth. -/
noncomputable def Try.pinned : Pinned := { name := "ytbighbbpahngiaa", sum := "0c6442dde73998b03ab8daf3d6c64b1fe1a8765622260cc70e631c05e698e6b9", checked := Try.checked }
namespace Rows
def none {H : Type} : Left H := { results := [], args := [] }

/-- 'lightwelllaw07.InflateBack': WHATEVER THE INPUT: true; the input reads as it did. -/
def inflateBackSpec : ChangeSpec := { name := "inflateBack", fn := fun _ => fun
  | [d1, d2, d3] => { results := [.lit (.bool true)], args := [d1, d2, d3] }
  | _ => none }
def inflateBackRow : OpenClaim := { program := "ytbighbbpahngiaa", sum := "0c6442dde73998b03ab8daf3d6c64b1fe1a8765622260cc70e631c05e698e6b9", func := "lightwell/lightwelllaw07.InflateBack", spec := "inflateBack", unfollowed := true, recurses := true, plainKeys := false, apart := false }
def InflateBackSaid : Prop := inflateBackRow.holds Try.pinned (OpenSpec.ofChange inflateBackSpec)

/-- ITS FALSE NEIGHBOUR: 'it returns false'. Refute it at one input. -/
def inflateBackWrong : ChangeSpec := { name := "inflateBack", fn := fun _ => fun
  | [d1, d2, d3] => { results := [.lit (.bool false)], args := [d1, d2, d3] }
  | _ => none }
def InflateBackWrongFalsely : Prop := inflateBackRow.holds Try.pinned (OpenSpec.ofChange inflateBackWrong)

/-- 'lightwelllaw08.ZlibNumbers': WHATEVER THE INPUT: true; the input reads as it did. -/
def zlibNumbersSpec : ChangeSpec := { name := "zlibNumbers", fn := fun _ => fun
  | [] => { results := [.lit (.bool true)], args := [] }
  | _ => none }
def zlibNumbersRow : OpenClaim := { program := "ytbighbbpahngiaa", sum := "0c6442dde73998b03ab8daf3d6c64b1fe1a8765622260cc70e631c05e698e6b9", func := "lightwell/lightwelllaw08.ZlibNumbers", spec := "zlibNumbers", unfollowed := true, recurses := true, plainKeys := false, apart := false }
def ZlibNumbersSaid : Prop := zlibNumbersRow.holds Try.pinned (OpenSpec.ofChange zlibNumbersSpec)

/-- ITS FALSE NEIGHBOUR: 'it returns false'. Refute it at one input. -/
def zlibNumbersWrong : ChangeSpec := { name := "zlibNumbers", fn := fun _ => fun
  | [] => { results := [.lit (.bool false)], args := [] }
  | _ => none }
def ZlibNumbersWrongFalsely : Prop := zlibNumbersRow.holds Try.pinned (OpenSpec.ofChange zlibNumbersWrong)

/-- 'lightwelllaw08.ZlibTells': WHATEVER THE INPUT: true; the input reads as it did. -/
def zlibTellsSpec : ChangeSpec := { name := "zlibTells", fn := fun _ => fun
  | [d] => { results := [.lit (.bool true)], args := [d] }
  | _ => none }
def zlibTellsRow : OpenClaim := { program := "ytbighbbpahngiaa", sum := "0c6442dde73998b03ab8daf3d6c64b1fe1a8765622260cc70e631c05e698e6b9", func := "lightwell/lightwelllaw08.ZlibTells", spec := "zlibTells", unfollowed := true, recurses := true, plainKeys := false, apart := false }
def ZlibTellsSaid : Prop := zlibTellsRow.holds Try.pinned (OpenSpec.ofChange zlibTellsSpec)

/-- ITS FALSE NEIGHBOUR: 'it returns false'. Refute it at one input. -/
def zlibTellsWrong : ChangeSpec := { name := "zlibTells", fn := fun _ => fun
  | [d] => { results := [.lit (.bool false)], args := [d] }
  | _ => none }
def ZlibTellsWrongFalsely : Prop := zlibTellsRow.holds Try.pinned (OpenSpec.ofChange zlibTellsWrong)

/-- 'lightwelllaw08.ZlibNone': WHATEVER THE INPUT: true; the input reads as it did. -/
def zlibNoneSpec : ChangeSpec := { name := "zlibNone", fn := fun _ => fun
  | [d] => { results := [.lit (.bool true)], args := [d] }
  | _ => none }
def zlibNoneRow : OpenClaim := { program := "ytbighbbpahngiaa", sum := "0c6442dde73998b03ab8daf3d6c64b1fe1a8765622260cc70e631c05e698e6b9", func := "lightwell/lightwelllaw08.ZlibNone", spec := "zlibNone", unfollowed := true, recurses := true, plainKeys := false, apart := false }
def ZlibNoneSaid : Prop := zlibNoneRow.holds Try.pinned (OpenSpec.ofChange zlibNoneSpec)

/-- ITS FALSE NEIGHBOUR: 'it returns false'. Refute it at one input. -/
def zlibNoneWrong : ChangeSpec := { name := "zlibNone", fn := fun _ => fun
  | [d] => { results := [.lit (.bool false)], args := [d] }
  | _ => none }
def ZlibNoneWrongFalsely : Prop := zlibNoneRow.holds Try.pinned (OpenSpec.ofChange zlibNoneWrong)

/-- 'lightwelllaw08.ZlibBack': WHATEVER THE INPUT: true; the input reads as it did. -/
def zlibBackSpec : ChangeSpec := { name := "zlibBack", fn := fun _ => fun
  | [d1, d2, d3, d4] => { results := [.lit (.bool true)], args := [d1, d2, d3, d4] }
  | _ => none }
def zlibBackRow : OpenClaim := { program := "ytbighbbpahngiaa", sum := "0c6442dde73998b03ab8daf3d6c64b1fe1a8765622260cc70e631c05e698e6b9", func := "lightwell/lightwelllaw08.ZlibBack", spec := "zlibBack", unfollowed := true, recurses := true, plainKeys := false, apart := false }
def ZlibBackSaid : Prop := zlibBackRow.holds Try.pinned (OpenSpec.ofChange zlibBackSpec)

/-- ITS FALSE NEIGHBOUR: 'it returns false'. Refute it at one input. -/
def zlibBackWrong : ChangeSpec := { name := "zlibBack", fn := fun _ => fun
  | [d1, d2, d3, d4] => { results := [.lit (.bool false)], args := [d1, d2, d3, d4] }
  | _ => none }
def ZlibBackWrongFalsely : Prop := zlibBackRow.holds Try.pinned (OpenSpec.ofChange zlibBackWrong)

/- THE SECOND FORM. 'bulk': how many values and letters a reading holds, each counted each time it is reached (what is shared counts as often as it is met; a slice's spare places count too). A statement '..UptoSaid' is the law's where the arguments, and the package variables that the reading takes, are together of bulk at most 1048576: NARROWER than '..Said'. Prove '..Said' where nothing that the law and all that it calls make is longer than what came in: it says more and counts as full. Else prove '..UptoSaid'. A law counts once. -/
mutual
def uptoBulk {H : Type} : DataW H → Nat
  | .lit (.string bytes) => bytes.length + 1
  | .lit _ => 1
  | .nil => 1
  | .ptr d => uptoBulk d + 1
  | .slice elems spare => uptoBulkAll elems + uptoBulkAll spare + 1
  | .agg parts => uptoBulkAll parts + 1
  | .iface _ d => uptoBulk d + 1
  | .map entries => uptoBulkEntries entries + 1
  | .held _ => 1
def uptoBulkAll {H : Type} : List (DataW H) → Nat
  | [] => 0
  | d :: r => uptoBulk d + uptoBulkAll r
def uptoBulkEntries {H : Type} : List (Lit × DataW H) → Nat
  | [] => 0
  | x :: r => uptoBulkEntry x + uptoBulkEntries r
def uptoBulkEntry {H : Type} : Lit × DataW H → Nat
  | (.string bytes, d) => bytes.length + uptoBulk d + 1
  | (_, d) => uptoBulk d + 1
 end
def uptoSmall : (H : Type) → List (DataW H) → Bool := fun _ ds => decide (uptoBulkAll ds ≤ 1048576)
def OpenSpec.upto (s : _root_.Go.ChangeSpec) : _root_.Go.OpenSpec := { _root_.Go.OpenSpec.ofChange s with cond := some uptoSmall }

/-- 'lightwelllaw07.InflateBack', WHERE WHAT IT READS IS OF BULK AT MOST 1048576: true; the input reads as it did. -/
def inflateBackUptoRow : OpenClaim := { program := "ytbighbbpahngiaa", sum := "0c6442dde73998b03ab8daf3d6c64b1fe1a8765622260cc70e631c05e698e6b9", func := "lightwell/lightwelllaw07.InflateBack", spec := "inflateBack", unfollowed := true, recurses := true, plainKeys := false, apart := false, narrowed := true }
def InflateBackUptoSaid : Prop := inflateBackUptoRow.holds Try.pinned (OpenSpec.upto inflateBackSpec)

/-- 'lightwelllaw08.ZlibNumbers', WHERE WHAT IT READS IS OF BULK AT MOST 1048576: true; the input reads as it did. -/
def zlibNumbersUptoRow : OpenClaim := { program := "ytbighbbpahngiaa", sum := "0c6442dde73998b03ab8daf3d6c64b1fe1a8765622260cc70e631c05e698e6b9", func := "lightwell/lightwelllaw08.ZlibNumbers", spec := "zlibNumbers", unfollowed := true, recurses := true, plainKeys := false, apart := false, narrowed := true }
def ZlibNumbersUptoSaid : Prop := zlibNumbersUptoRow.holds Try.pinned (OpenSpec.upto zlibNumbersSpec)

/-- 'lightwelllaw08.ZlibTells', WHERE WHAT IT READS IS OF BULK AT MOST 1048576: true; the input reads as it did. -/
def zlibTellsUptoRow : OpenClaim := { program := "ytbighbbpahngiaa", sum := "0c6442dde73998b03ab8daf3d6c64b1fe1a8765622260cc70e631c05e698e6b9", func := "lightwell/lightwelllaw08.ZlibTells", spec := "zlibTells", unfollowed := true, recurses := true, plainKeys := false, apart := false, narrowed := true }
def ZlibTellsUptoSaid : Prop := zlibTellsUptoRow.holds Try.pinned (OpenSpec.upto zlibTellsSpec)

/-- 'lightwelllaw08.ZlibNone', WHERE WHAT IT READS IS OF BULK AT MOST 1048576: true; the input reads as it did. -/
def zlibNoneUptoRow : OpenClaim := { program := "ytbighbbpahngiaa", sum := "0c6442dde73998b03ab8daf3d6c64b1fe1a8765622260cc70e631c05e698e6b9", func := "lightwell/lightwelllaw08.ZlibNone", spec := "zlibNone", unfollowed := true, recurses := true, plainKeys := false, apart := false, narrowed := true }
def ZlibNoneUptoSaid : Prop := zlibNoneUptoRow.holds Try.pinned (OpenSpec.upto zlibNoneSpec)

/-- 'lightwelllaw08.ZlibBack', WHERE WHAT IT READS IS OF BULK AT MOST 1048576: true; the input reads as it did. -/
def zlibBackUptoRow : OpenClaim := { program := "ytbighbbpahngiaa", sum := "0c6442dde73998b03ab8daf3d6c64b1fe1a8765622260cc70e631c05e698e6b9", func := "lightwell/lightwelllaw08.ZlibBack", spec := "zlibBack", unfollowed := true, recurses := true, plainKeys := false, apart := false, narrowed := true }
def ZlibBackUptoSaid : Prop := zlibBackUptoRow.holds Try.pinned (OpenSpec.upto zlibBackSpec)

end Rows
end Go.Proofs.Ytbighbbpahngiaa
