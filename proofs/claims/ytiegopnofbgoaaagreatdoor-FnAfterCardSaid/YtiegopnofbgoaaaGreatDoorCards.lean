/-
  DERIVED. GIVEN WITH THE SEED: THE CARDS: each row of YtiegopnofbgoaaaGreatDoorRows.lean that lists a variable, with what it lists TIED to the program's text (the seventh form; the later family's looks); each row that meets fmt, with fmt's text TOLD by the authors' own Lean function (tested against real Go, not proved from fmt's source: count such statements apart). THE CARD IS WHAT COUNTS. Prove the row's statement (the work); the ties are given (YtiegopnofbgoaaaGreatDoorTie.lean); close each card by the builder's one call (the guide's Derived/Test/ToyasCard.lean, 'card_holds'). Laid BY PROGRAM, IN A SANDBOX (cutbox-door.mjs). By AI agents, Wed Nov 11 2026. No macro, syntax, notation, axiom, sorry.
-/
import Derived.Test.YtiegopnofbgoaaaGreatDoorRows
import GoSem.ClaimSeven
namespace Go.Proofs.YtiegopnofbgoaaaGreatDoor
namespace Rows

/-- THE TIED CARD OF 'laws.FnAfter'. -/
def fnAfterCard : Claim7 := { stood := { row := fnAfterRow, standIns := [], harness := (true, "963c6913876016c08ccad3b2ab6b910398b9c9cdad6399c099a05871d546d3d7"), looks := false }, kinds := [], alts := [], laidByText := true, laidKinds := [.data, .data], laidTests := true, laidLooks := .later }
def FnAfterCardSaid : Prop := Claim7.holds Tryz.pinned (.plain (OpenSpec.ofChange fnAfterSpec)) fnAfterCard

/-- THE SECOND FORM's CARD OF 'laws.FnAfter'. -/
def fnAfterUptoCard : Claim7 := { stood := { row := fnAfterUptoRow, standIns := [], harness := (true, "963c6913876016c08ccad3b2ab6b910398b9c9cdad6399c099a05871d546d3d7"), looks := false }, kinds := [], alts := [], laidByText := true, laidKinds := [.data, .data], laidTests := true, laidLooks := .later }
def FnAfterUptoCardSaid : Prop := Claim7.holds Tryz.pinned (.plain (OpenSpec.upto fnAfterSpec)) fnAfterUptoCard
end Rows
end Go.Proofs.YtiegopnofbgoaaaGreatDoor
