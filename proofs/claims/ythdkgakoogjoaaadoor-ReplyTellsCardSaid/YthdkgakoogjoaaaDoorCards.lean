/-
  DERIVED. GIVEN WITH THE SEED: THE CARDS: each row of YthdkgakoogjoaaaDoorRows.lean that lists a variable, with what it lists TIED to the program's text (the seventh form; the later family's looks); each row that meets fmt, with fmt's text TOLD by the authors' own Lean function (tested against real Go, not proved from fmt's source: count such statements apart). THE CARD IS WHAT COUNTS. Prove the row's statement (the work); the ties are given (YthdkgakoogjoaaaDoorTie.lean); close each card by the builder's one call (the guide's Derived/Test/ToyasCard.lean, 'card_holds'). Laid BY PROGRAM, IN A SANDBOX (cutbox-door.mjs). By AI agents, Wed Nov 11 2026. No macro, syntax, notation, axiom, sorry.
-/
import Derived.Test.YthdkgakoogjoaaaDoorRows
import GoSem.ClaimSeven
namespace Go.Proofs.YthdkgakoogjoaaaDoor
namespace Rows

/-- THE TIED CARD OF 'lightwelllaw28.ReplyNumbers'. -/
def replyNumbersCard : Claim7 := { stood := { row := replyNumbersRow, standIns := [], harness := (true, "736182a007674637df665ba98f67f837d6c1165ea1a9539ac58a06b4f9d1c8a1"), looks := false }, kinds := [], alts := [], laidByText := true, laidKinds := [.data, .data, .data, .data, .pinned, .pinned], laidTests := true, laidLooks := .later }
def ReplyNumbersCardSaid : Prop := Claim7.holds Tryd.pinned (.plain (OpenSpec.ofChange replyNumbersSpec)) replyNumbersCard

/-- THE TIED CARD OF 'lightwelllaw28.ReplyTells'. -/
def replyTellsCard : Claim7 := { stood := { row := replyTellsRow, standIns := [], harness := (true, "736182a007674637df665ba98f67f837d6c1165ea1a9539ac58a06b4f9d1c8a1"), looks := false }, kinds := [], alts := [], laidByText := true, laidKinds := [.data, .data, .data, .data, .pinned, .pinned], laidTests := true, laidLooks := .later }
def ReplyTellsCardSaid : Prop := Claim7.holds Tryd.pinned (.plain (OpenSpec.ofChange replyTellsSpec)) replyTellsCard

/-- THE SECOND FORM's CARD OF 'lightwelllaw28.ReplyNumbers'. -/
def replyNumbersUptoCard : Claim7 := { stood := { row := replyNumbersUptoRow, standIns := [], harness := (true, "736182a007674637df665ba98f67f837d6c1165ea1a9539ac58a06b4f9d1c8a1"), looks := false }, kinds := [], alts := [], laidByText := true, laidKinds := [.data, .data, .data, .data, .pinned, .pinned], laidTests := true, laidLooks := .later }
def ReplyNumbersUptoCardSaid : Prop := Claim7.holds Tryd.pinned (.plain (OpenSpec.upto replyNumbersSpec)) replyNumbersUptoCard

/-- THE SECOND FORM's CARD OF 'lightwelllaw28.ReplyTells'. -/
def replyTellsUptoCard : Claim7 := { stood := { row := replyTellsUptoRow, standIns := [], harness := (true, "736182a007674637df665ba98f67f837d6c1165ea1a9539ac58a06b4f9d1c8a1"), looks := false }, kinds := [], alts := [], laidByText := true, laidKinds := [.data, .data, .data, .data, .pinned, .pinned], laidTests := true, laidLooks := .later }
def ReplyTellsUptoCardSaid : Prop := Claim7.holds Tryd.pinned (.plain (OpenSpec.upto replyTellsSpec)) replyTellsUptoCard
end Rows
end Go.Proofs.YthdkgakoogjoaaaDoor
