/-
  DERIVED. GIVEN WITH THE SEED: THE CARDS: each row of YteabnpheoiakdaaGreatDoorRows.lean that lists a variable, with what it lists TIED to the program's text (the seventh form; the later family's looks); each row that meets fmt, with fmt's text TOLD by the authors' own Lean function (tested against real Go, not proved from fmt's source: count such statements apart). THE CARD IS WHAT COUNTS. Prove the row's statement (the work); the ties are given (YteabnpheoiakdaaGreatDoorTie.lean); close each card by the builder's one call (the guide's Derived/Test/ToyasCard.lean, 'card_holds'). Laid BY PROGRAM, IN A SANDBOX (cutbox-door.mjs). By AI agents, Wed Nov 11 2026. No macro, syntax, notation, axiom, sorry.
-/
import Derived.Test.YteabnpheoiakdaaGreatDoorRows
import GoSem.ClaimSeven
namespace Go.Proofs.YteabnpheoiakdaaGreatDoor
namespace Rows

/-- THE TIED CARD OF 'lightwelllaw16.TreeTells'. -/
def treeTellsCard : Claim7 := { stood := { row := treeTellsRow, standIns := [], harness := (true, "04698a9b5fd990718d8c62ec7968251b334489a6dd7f8ec48f5be57e68bba03b"), looks := false }, kinds := [], alts := [], laidByText := true, laidKinds := [.data, .data, .data], laidTests := true, laidLooks := .later }
def TreeTellsCardSaid : Prop := Claim7.holds Tryz.pinned (.plain (OpenSpec.ofChange treeTellsSpec)) treeTellsCard

/-- THE TIED CARD OF 'lightwelllaw16.TreeNested'. -/
def treeNestedCard : Claim7 := { stood := { row := treeNestedRow, standIns := [], harness := (true, "04698a9b5fd990718d8c62ec7968251b334489a6dd7f8ec48f5be57e68bba03b"), looks := false }, kinds := [], alts := [], laidByText := true, laidKinds := [.data, .data, .data], laidTests := true, laidLooks := .later }
def TreeNestedCardSaid : Prop := Claim7.holds Tryz.pinned (.plain (OpenSpec.ofChange treeNestedSpec)) treeNestedCard

/-- THE TIED CARD OF 'lightwelllaw18.CodeTells'. -/
def codeTellsCard : Claim7 := { stood := { row := codeTellsRow, standIns := [], harness := (true, "04698a9b5fd990718d8c62ec7968251b334489a6dd7f8ec48f5be57e68bba03b"), looks := false }, kinds := [], alts := [], laidByText := true, laidKinds := [.data, .data, .data], laidTests := true, laidLooks := .later }
def CodeTellsCardSaid : Prop := Claim7.holds Tryz.pinned (.plain (OpenSpec.ofChange codeTellsSpec)) codeTellsCard

/-- THE TIED CARD OF 'lightwelllaw18.CodeRight'. -/
def codeRightCard : Claim7 := { stood := { row := codeRightRow, standIns := [], harness := (true, "04698a9b5fd990718d8c62ec7968251b334489a6dd7f8ec48f5be57e68bba03b"), looks := false }, kinds := [], alts := [], laidByText := true, laidKinds := [.data, .data, .data], laidTests := true, laidLooks := .later }
def CodeRightCardSaid : Prop := Claim7.holds Tryz.pinned (.plain (OpenSpec.ofChange codeRightSpec)) codeRightCard

/-- THE SECOND FORM's CARD OF 'lightwelllaw16.TreeTells'. -/
def treeTellsUptoCard : Claim7 := { stood := { row := treeTellsUptoRow, standIns := [], harness := (true, "04698a9b5fd990718d8c62ec7968251b334489a6dd7f8ec48f5be57e68bba03b"), looks := false }, kinds := [], alts := [], laidByText := true, laidKinds := [.data, .data, .data], laidTests := true, laidLooks := .later }
def TreeTellsUptoCardSaid : Prop := Claim7.holds Tryz.pinned (.plain (OpenSpec.upto treeTellsSpec)) treeTellsUptoCard

/-- THE SECOND FORM's CARD OF 'lightwelllaw16.TreeNested'. -/
def treeNestedUptoCard : Claim7 := { stood := { row := treeNestedUptoRow, standIns := [], harness := (true, "04698a9b5fd990718d8c62ec7968251b334489a6dd7f8ec48f5be57e68bba03b"), looks := false }, kinds := [], alts := [], laidByText := true, laidKinds := [.data, .data, .data], laidTests := true, laidLooks := .later }
def TreeNestedUptoCardSaid : Prop := Claim7.holds Tryz.pinned (.plain (OpenSpec.upto treeNestedSpec)) treeNestedUptoCard

/-- THE SECOND FORM's CARD OF 'lightwelllaw18.CodeTells'. -/
def codeTellsUptoCard : Claim7 := { stood := { row := codeTellsUptoRow, standIns := [], harness := (true, "04698a9b5fd990718d8c62ec7968251b334489a6dd7f8ec48f5be57e68bba03b"), looks := false }, kinds := [], alts := [], laidByText := true, laidKinds := [.data, .data, .data], laidTests := true, laidLooks := .later }
def CodeTellsUptoCardSaid : Prop := Claim7.holds Tryz.pinned (.plain (OpenSpec.upto codeTellsSpec)) codeTellsUptoCard

/-- THE SECOND FORM's CARD OF 'lightwelllaw18.CodeRight'. -/
def codeRightUptoCard : Claim7 := { stood := { row := codeRightUptoRow, standIns := [], harness := (true, "04698a9b5fd990718d8c62ec7968251b334489a6dd7f8ec48f5be57e68bba03b"), looks := false }, kinds := [], alts := [], laidByText := true, laidKinds := [.data, .data, .data], laidTests := true, laidLooks := .later }
def CodeRightUptoCardSaid : Prop := Claim7.holds Tryz.pinned (.plain (OpenSpec.upto codeRightSpec)) codeRightUptoCard
end Rows
end Go.Proofs.YteabnpheoiakdaaGreatDoor
