/-
  No cell of these rows narrows 'for every input' (looked for: loops, veiled, ifaces, maps, wideKeys, modest, calm, conditions, laid).
  DERIVED. THE GIVEN ROWS OF THIS SEAT. 5 by the template 'for every input the law returns true; each argument reads behind the call as it read before'; 0 by the template 'total and deterministic' (their statements: YtndeemjhengoiaaTotals.lean).
  GIVEN WITH THE SEED: the statements are not yours to turn. If you find one false, say at which input.
  Laid BY PROGRAM, IN A SANDBOX (cutbox-rows.mjs): the forced cells as the released guide's own fill.sh prints them over the translation 33a85f1aa0ddb4e7… (all of the seat's roots in one cut). By AI agents, Wed Nov 11 2026. No macro, syntax, notation, axiom, sorry.
-/
import Derived.Test.YtndeemjhengoiaaChecked
import GoSem.Claim
import GoSem.ClaimJoined
import GoSem.ClaimMapViews
import Derived.JoinedTies
import Derived.KernelRfl
namespace Go.Proofs.Ytndeemjhengoiaa
/- THE CELL 'sum', in the pinned program and in every row, IS THE sha256 OF THE DUMP (.gsa) THAT YtndeemjhengoiaaProg.lean LOADS. Nothing in Lean hashes anything: it is a label: what it is worth is what the hold of that sum in a sandbox is worth. -/
noncomputable def Try.pinned : Pinned := { name := "ytndeemjhengoiaa", sum := "33a85f1aa0ddb4e778911749652c5dc369605af55e3c2eee50529ff7ec1c8c2d", checked := Try.checked }
namespace Rows
def none {H : Type} : Left H := { results := [], args := [] }

/-- 'lightwelllaw03.ChanceNumbers': WHATEVER THE INPUT: true; the input reads as it did. -/
def chanceNumbersSpec : ChangeSpec := { name := "chanceNumbers", fn := fun _ => fun
  | [] => { results := [.lit (.bool true)], args := [] }
  | _ => none }
def chanceNumbersRow : OpenClaim := { program := "ytndeemjhengoiaa", sum := "33a85f1aa0ddb4e778911749652c5dc369605af55e3c2eee50529ff7ec1c8c2d", func := "lightwell/lightwelllaw03.ChanceNumbers", spec := "chanceNumbers", apart := false }
def ChanceNumbersSaid : Prop := chanceNumbersRow.holds Try.pinned (OpenSpec.ofChange chanceNumbersSpec)

/-- ITS FALSE NEIGHBOUR: 'it returns false'. Refute it at one input. -/
def chanceNumbersWrong : ChangeSpec := { name := "chanceNumbers", fn := fun _ => fun
  | [] => { results := [.lit (.bool false)], args := [] }
  | _ => none }
def ChanceNumbersWrongFalsely : Prop := chanceNumbersRow.holds Try.pinned (OpenSpec.ofChange chanceNumbersWrong)

/-- 'lightwelllaw03.ChanceTells': WHATEVER THE INPUT: true; the input reads as it did. -/
def chanceTellsSpec : ChangeSpec := { name := "chanceTells", fn := fun _ => fun
  | [d1, d2, d3, d4] => { results := [.lit (.bool true)], args := [d1, d2, d3, d4] }
  | _ => none }
def chanceTellsRow : OpenClaim := { program := "ytndeemjhengoiaa", sum := "33a85f1aa0ddb4e778911749652c5dc369605af55e3c2eee50529ff7ec1c8c2d", func := "lightwell/lightwelllaw03.ChanceTells", spec := "chanceTells", apart := false }
def ChanceTellsSaid : Prop := chanceTellsRow.holds Try.pinned (OpenSpec.ofChange chanceTellsSpec)

/-- ITS FALSE NEIGHBOUR: 'it returns false'. Refute it at one input. -/
def chanceTellsWrong : ChangeSpec := { name := "chanceTells", fn := fun _ => fun
  | [d1, d2, d3, d4] => { results := [.lit (.bool false)], args := [d1, d2, d3, d4] }
  | _ => none }
def ChanceTellsWrongFalsely : Prop := chanceTellsRow.holds Try.pinned (OpenSpec.ofChange chanceTellsWrong)

/-- 'lightwelllaw03.ChanceOnce': WHATEVER THE INPUT: true; the input reads as it did. -/
def chanceOnceSpec : ChangeSpec := { name := "chanceOnce", fn := fun _ => fun
  | [d1, d2, d3, d4, d5] => { results := [.lit (.bool true)], args := [d1, d2, d3, d4, d5] }
  | _ => none }
def chanceOnceRow : OpenClaim := { program := "ytndeemjhengoiaa", sum := "33a85f1aa0ddb4e778911749652c5dc369605af55e3c2eee50529ff7ec1c8c2d", func := "lightwell/lightwelllaw03.ChanceOnce", spec := "chanceOnce", apart := false }
def ChanceOnceSaid : Prop := chanceOnceRow.holds Try.pinned (OpenSpec.ofChange chanceOnceSpec)

/-- ITS FALSE NEIGHBOUR: 'it returns false'. Refute it at one input. -/
def chanceOnceWrong : ChangeSpec := { name := "chanceOnce", fn := fun _ => fun
  | [d1, d2, d3, d4, d5] => { results := [.lit (.bool false)], args := [d1, d2, d3, d4, d5] }
  | _ => none }
def ChanceOnceWrongFalsely : Prop := chanceOnceRow.holds Try.pinned (OpenSpec.ofChange chanceOnceWrong)

/-- 'lightwelllaw25.FrameTells': WHATEVER THE INPUT: true; the input reads as it did. -/
def frameTellsSpec : ChangeSpec := { name := "frameTells", fn := fun _ => fun
  | [d1, d2, d3] => { results := [.lit (.bool true)], args := [d1, d2, d3] }
  | _ => none }
def frameTellsRow : OpenClaim := { program := "ytndeemjhengoiaa", sum := "33a85f1aa0ddb4e778911749652c5dc369605af55e3c2eee50529ff7ec1c8c2d", func := "lightwell/lightwelllaw25.FrameTells", spec := "frameTells", unfollowed := true, recurses := true, apart := false }
def FrameTellsSaid : Prop := frameTellsRow.holds Try.pinned (OpenSpec.ofChange frameTellsSpec)

/-- ITS FALSE NEIGHBOUR: 'it returns false'. Refute it at one input. -/
def frameTellsWrong : ChangeSpec := { name := "frameTells", fn := fun _ => fun
  | [d1, d2, d3] => { results := [.lit (.bool false)], args := [d1, d2, d3] }
  | _ => none }
def FrameTellsWrongFalsely : Prop := frameTellsRow.holds Try.pinned (OpenSpec.ofChange frameTellsWrong)

/-- 'lightwelllaw25.FrameShares': WHATEVER THE INPUT: true; the input reads as it did. -/
def frameSharesSpec : ChangeSpec := { name := "frameShares", fn := fun _ => fun
  | [d1, d2] => { results := [.lit (.bool true)], args := [d1, d2] }
  | _ => none }
def frameSharesRow : OpenClaim := { program := "ytndeemjhengoiaa", sum := "33a85f1aa0ddb4e778911749652c5dc369605af55e3c2eee50529ff7ec1c8c2d", func := "lightwell/lightwelllaw25.FrameShares", spec := "frameShares", unfollowed := true, recurses := true, apart := false }
def FrameSharesSaid : Prop := frameSharesRow.holds Try.pinned (OpenSpec.ofChange frameSharesSpec)

/-- ITS FALSE NEIGHBOUR: 'it returns false'. Refute it at one input. -/
def frameSharesWrong : ChangeSpec := { name := "frameShares", fn := fun _ => fun
  | [d1, d2] => { results := [.lit (.bool false)], args := [d1, d2] }
  | _ => none }
def FrameSharesWrongFalsely : Prop := frameSharesRow.holds Try.pinned (OpenSpec.ofChange frameSharesWrong)

/- THE SECOND FORM. 'bulk': how many values and letters a reading holds, each counted each time it is reached (what is shared counts as often as it is met; a slice's spare places count too). A statement '..UptoSaid' is the law's where the arguments, and the package variables that the reading takes, are together of bulk at most 1048576: NARROWER than '..Said'. Prove '..Said' where nothing that the law and all that it calls make is longer than what came in: it says more and counts as full. Else prove '..UptoSaid'. A law counts once. -/
mutual
def uptoBulk {H : Type} : DataW H → Nat
  | .lit (.string bytes) => bytes.length + 1
  | .lit _ => 1
  | .nil => 1
  | .ptr d => uptoBulk d + 1
  | .slice elems spare => uptoBulkAll elems + uptoBulkAll spare + 1
  | .agg parts => uptoBulkAll parts + 1
  | .iface _ d => uptoBulk d + 1
  | .map entries => uptoBulkEntries entries + 1
  | .held _ => 1
def uptoBulkAll {H : Type} : List (DataW H) → Nat
  | [] => 0
  | d :: r => uptoBulk d + uptoBulkAll r
def uptoBulkEntries {H : Type} : List (Lit × DataW H) → Nat
  | [] => 0
  | x :: r => uptoBulkEntry x + uptoBulkEntries r
def uptoBulkEntry {H : Type} : Lit × DataW H → Nat
  | (.string bytes, d) => bytes.length + uptoBulk d + 1
  | (_, d) => uptoBulk d + 1
 end
def uptoSmall : (H : Type) → List (DataW H) → Bool := fun _ ds => decide (uptoBulkAll ds ≤ 1048576)
def OpenSpec.upto (s : _root_.Go.ChangeSpec) : _root_.Go.OpenSpec := { _root_.Go.OpenSpec.ofChange s with cond := some uptoSmall }

/-- 'lightwelllaw03.ChanceNumbers', WHERE WHAT IT READS IS OF BULK AT MOST 1048576: true; the input reads as it did. -/
def chanceNumbersUptoRow : OpenClaim := { program := "ytndeemjhengoiaa", sum := "33a85f1aa0ddb4e778911749652c5dc369605af55e3c2eee50529ff7ec1c8c2d", func := "lightwell/lightwelllaw03.ChanceNumbers", spec := "chanceNumbers", apart := false, narrowed := true }
def ChanceNumbersUptoSaid : Prop := chanceNumbersUptoRow.holds Try.pinned (OpenSpec.upto chanceNumbersSpec)

/-- 'lightwelllaw03.ChanceTells', WHERE WHAT IT READS IS OF BULK AT MOST 1048576: true; the input reads as it did. -/
def chanceTellsUptoRow : OpenClaim := { program := "ytndeemjhengoiaa", sum := "33a85f1aa0ddb4e778911749652c5dc369605af55e3c2eee50529ff7ec1c8c2d", func := "lightwell/lightwelllaw03.ChanceTells", spec := "chanceTells", apart := false, narrowed := true }
def ChanceTellsUptoSaid : Prop := chanceTellsUptoRow.holds Try.pinned (OpenSpec.upto chanceTellsSpec)

/-- 'lightwelllaw03.ChanceOnce', WHERE WHAT IT READS IS OF BULK AT MOST 1048576: true; the input reads as it did. -/
def chanceOnceUptoRow : OpenClaim := { program := "ytndeemjhengoiaa", sum := "33a85f1aa0ddb4e778911749652c5dc369605af55e3c2eee50529ff7ec1c8c2d", func := "lightwell/lightwelllaw03.ChanceOnce", spec := "chanceOnce", apart := false, narrowed := true }
def ChanceOnceUptoSaid : Prop := chanceOnceUptoRow.holds Try.pinned (OpenSpec.upto chanceOnceSpec)

/-- 'lightwelllaw25.FrameTells', WHERE WHAT IT READS IS OF BULK AT MOST 1048576: true; the input reads as it did. -/
def frameTellsUptoRow : OpenClaim := { program := "ytndeemjhengoiaa", sum := "33a85f1aa0ddb4e778911749652c5dc369605af55e3c2eee50529ff7ec1c8c2d", func := "lightwell/lightwelllaw25.FrameTells", spec := "frameTells", unfollowed := true, recurses := true, apart := false, narrowed := true }
def FrameTellsUptoSaid : Prop := frameTellsUptoRow.holds Try.pinned (OpenSpec.upto frameTellsSpec)

/-- 'lightwelllaw25.FrameShares', WHERE WHAT IT READS IS OF BULK AT MOST 1048576: true; the input reads as it did. -/
def frameSharesUptoRow : OpenClaim := { program := "ytndeemjhengoiaa", sum := "33a85f1aa0ddb4e778911749652c5dc369605af55e3c2eee50529ff7ec1c8c2d", func := "lightwell/lightwelllaw25.FrameShares", spec := "frameShares", unfollowed := true, recurses := true, apart := false, narrowed := true }
def FrameSharesUptoSaid : Prop := frameSharesUptoRow.holds Try.pinned (OpenSpec.upto frameSharesSpec)

end Rows
end Go.Proofs.Ytndeemjhengoiaa
