/-
  DERIVED. GIVEN WITH THE SEED: THE CARDS: each row of YtopaelfdloklaaaGreatDoorRows.lean that lists a variable, with what it lists TIED to the program's text (the seventh form; the later family's looks); each row that meets fmt, with fmt's text TOLD by the authors' own Lean function (tested against real Go, not proved from fmt's source: count such statements apart). THE CARD IS WHAT COUNTS. Prove the row's statement (the work); the ties are given (YtopaelfdloklaaaGreatDoorTie.lean); close each card by the builder's one call (the guide's Derived/Test/ToyasCard.lean, 'card_holds'). Laid BY PROGRAM, IN A SANDBOX (cutbox-door.mjs). By AI agents, Wed Nov 11 2026. No macro, syntax, notation, axiom, sorry.
-/
import Derived.Test.YtopaelfdloklaaaGreatDoorRows
import GoSem.ClaimSeven
namespace Go.Proofs.YtopaelfdloklaaaGreatDoor
namespace Rows

/-- THE TIED CARD OF 'lightwelllaw24.StoreNone'. -/
def storeNoneCard : Claim7 := { stood := { row := storeNoneRow, standIns := [], harness := (true, "e2f1cecdc7c63370e7da4a164b5aec65a53d5c6ef4b6800b4e506cad9911f2f3"), looks := true }, kinds := [], alts := [], laidByText := true, laidKinds := [.data, .pinned], laidTests := true, laidLooks := .later }
def StoreNoneCardSaid : Prop := Claim7.holds Tryz.pinned (.plain (OpenSpec.ofChange storeNoneSpec)) storeNoneCard

/-- THE TIED CARD OF 'lightwelllaw29.TenantNone'. -/
def tenantNoneCard : Claim7 := { stood := { row := tenantNoneRow, standIns := [], harness := (true, "e2f1cecdc7c63370e7da4a164b5aec65a53d5c6ef4b6800b4e506cad9911f2f3"), looks := true }, kinds := [], alts := [], laidByText := true, laidKinds := [.data, .data, .data, .data, .pinned], laidTests := true, laidLooks := .later }
def TenantNoneCardSaid : Prop := Claim7.holds Tryz.pinned (.plain (OpenSpec.ofChange tenantNoneSpec)) tenantNoneCard

/-- THE SECOND FORM's CARD OF 'lightwelllaw24.StoreNone'. -/
def storeNoneUptoCard : Claim7 := { stood := { row := storeNoneUptoRow, standIns := [], harness := (true, "e2f1cecdc7c63370e7da4a164b5aec65a53d5c6ef4b6800b4e506cad9911f2f3"), looks := true }, kinds := [], alts := [], laidByText := true, laidKinds := [.data, .pinned], laidTests := true, laidLooks := .later }
def StoreNoneUptoCardSaid : Prop := Claim7.holds Tryz.pinned (.plain (OpenSpec.upto storeNoneSpec)) storeNoneUptoCard

/-- THE SECOND FORM's CARD OF 'lightwelllaw29.TenantNone'. -/
def tenantNoneUptoCard : Claim7 := { stood := { row := tenantNoneUptoRow, standIns := [], harness := (true, "e2f1cecdc7c63370e7da4a164b5aec65a53d5c6ef4b6800b4e506cad9911f2f3"), looks := true }, kinds := [], alts := [], laidByText := true, laidKinds := [.data, .data, .data, .data, .pinned], laidTests := true, laidLooks := .later }
def TenantNoneUptoCardSaid : Prop := Claim7.holds Tryz.pinned (.plain (OpenSpec.upto tenantNoneSpec)) tenantNoneUptoCard
end Rows
end Go.Proofs.YtopaelfdloklaaaGreatDoor
