/-
  DERIVED. GIVEN WITH THE SEED: THE CARDS: each row of YtjjojdnhpnfdfaaGreatDoorRows.lean that lists a variable, with what it lists TIED to the program's text (the seventh form; the later family's looks); each row that meets fmt, with fmt's text TOLD by the authors' own Lean function (tested against real Go, not proved from fmt's source: count such statements apart). THE CARD IS WHAT COUNTS. Prove the row's statement (the work); the ties are given (YtjjojdnhpnfdfaaGreatDoorTie.lean); close each card by the builder's one call (the guide's Derived/Test/ToyasCard.lean, 'card_holds'). Laid BY PROGRAM, IN A SANDBOX (cutbox-door.mjs). By AI agents, Wed Nov 11 2026. No macro, syntax, notation, axiom, sorry.
-/
import Derived.Test.YtjjojdnhpnfdfaaGreatDoorRows
import GoSem.ClaimSeven
namespace Go.Proofs.YtjjojdnhpnfdfaaGreatDoor
namespace Rows

/-- THE TIED CARD OF 'cloakroomlaw13.ShardsNames'. -/
def shardsNamesCard : Claim7 := { stood := { row := shardsNamesRow, standIns := [], harness := (true, "80ab439b8af872db750114b080f73a90df41608b8ac86dc96d5882713416434a"), looks := true }, kinds := [], alts := [], laidByText := true, laidKinds := [.data, .data, .data, .sentinel, .sentinel], laidTests := true, laidLooks := .later }
def ShardsNamesCardSaid : Prop := Claim7.holds Tryz.pinned (.plain (OpenSpec.ofChange shardsNamesSpec)) shardsNamesCard

/-- THE SECOND FORM's CARD OF 'cloakroomlaw13.ShardsNames'. -/
def shardsNamesUptoCard : Claim7 := { stood := { row := shardsNamesUptoRow, standIns := [], harness := (true, "80ab439b8af872db750114b080f73a90df41608b8ac86dc96d5882713416434a"), looks := true }, kinds := [], alts := [], laidByText := true, laidKinds := [.data, .data, .data, .sentinel, .sentinel], laidTests := true, laidLooks := .later }
def ShardsNamesUptoCardSaid : Prop := Claim7.holds Tryz.pinned (.plain (OpenSpec.upto shardsNamesSpec)) shardsNamesUptoCard
end Rows
end Go.Proofs.YtjjojdnhpnfdfaaGreatDoor
