/-
  DERIVED. GIVEN WITH THE SEED: THE CARDS: each row of YtacaginbdjepcaaGreatDoorRows.lean that lists a variable, with what it lists TIED to the program's text (the seventh form; the later family's looks); each row that meets fmt, with fmt's text TOLD by the authors' own Lean function (tested against real Go, not proved from fmt's source: count such statements apart). THE CARD IS WHAT COUNTS. Prove the row's statement (the work); the ties are given (YtacaginbdjepcaaGreatDoorTie.lean); close each card by the builder's one call (the guide's Derived/Test/ToyasCard.lean, 'card_holds'). Laid BY PROGRAM, IN A SANDBOX (cutbox-door.mjs). By AI agents, Wed Nov 11 2026. No macro, syntax, notation, axiom, sorry.
-/
import Derived.Test.YtacaginbdjepcaaGreatDoorRows
import GoSem.ClaimSeven
namespace Go.Proofs.YtacaginbdjepcaaGreatDoor
namespace Rows

/-- THE TIED CARD OF 'lightwelllaw20.SceneBack'. -/
def sceneBackCard : Claim7 := { stood := { row := sceneBackRow, standIns := [], harness := (true, "9e072b4ec8526b2590b7371d82f3317ba0a1cb6d3dd27d5cfe6ad5da0ab5ebfb"), looks := false }, kinds := [], alts := [], laidByText := true, laidKinds := [.data, .data, .data, .data, .pinned], laidTests := true, laidLooks := .later }
def SceneBackCardSaid : Prop := Claim7.holds Tryz.pinned (.plain (OpenSpec.ofChange sceneBackSpec)) sceneBackCard

/-- THE TIED CARD OF 'lightwelllaw20.SceneLimits'. -/
def sceneLimitsCard : Claim7 := { stood := { row := sceneLimitsRow, standIns := [], harness := (true, "9e072b4ec8526b2590b7371d82f3317ba0a1cb6d3dd27d5cfe6ad5da0ab5ebfb"), looks := false }, kinds := [], alts := [], laidByText := true, laidKinds := [.data, .data, .data, .data, .pinned], laidTests := true, laidLooks := .later }
def SceneLimitsCardSaid : Prop := Claim7.holds Tryz.pinned (.plain (OpenSpec.ofChange sceneLimitsSpec)) sceneLimitsCard

/-- THE SECOND FORM's CARD OF 'lightwelllaw20.SceneBack'. -/
def sceneBackUptoCard : Claim7 := { stood := { row := sceneBackUptoRow, standIns := [], harness := (true, "9e072b4ec8526b2590b7371d82f3317ba0a1cb6d3dd27d5cfe6ad5da0ab5ebfb"), looks := false }, kinds := [], alts := [], laidByText := true, laidKinds := [.data, .data, .data, .data, .pinned], laidTests := true, laidLooks := .later }
def SceneBackUptoCardSaid : Prop := Claim7.holds Tryz.pinned (.plain (OpenSpec.upto sceneBackSpec)) sceneBackUptoCard

/-- THE SECOND FORM's CARD OF 'lightwelllaw20.SceneLimits'. -/
def sceneLimitsUptoCard : Claim7 := { stood := { row := sceneLimitsUptoRow, standIns := [], harness := (true, "9e072b4ec8526b2590b7371d82f3317ba0a1cb6d3dd27d5cfe6ad5da0ab5ebfb"), looks := false }, kinds := [], alts := [], laidByText := true, laidKinds := [.data, .data, .data, .data, .pinned], laidTests := true, laidLooks := .later }
def SceneLimitsUptoCardSaid : Prop := Claim7.holds Tryz.pinned (.plain (OpenSpec.upto sceneLimitsSpec)) sceneLimitsUptoCard
end Rows
end Go.Proofs.YtacaginbdjepcaaGreatDoor
