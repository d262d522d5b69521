/-
  DERIVED. GIVEN WITH THE SEED: THE CARDS: each row of YtkagbffdmppbhaaDoorRows.lean that lists a variable, with what it lists TIED to the program's text (the seventh form; the later family's looks); each row that meets fmt, with fmt's text TOLD by the authors' own Lean function (tested against real Go, not proved from fmt's source: count such statements apart). THE CARD IS WHAT COUNTS. Prove the row's statement (the work); the ties are given (YtkagbffdmppbhaaDoorTie.lean); close each card by the builder's one call (the guide's Derived/Test/ToyasCard.lean, 'card_holds'). Laid BY PROGRAM, IN A SANDBOX (cutbox-door.mjs). By AI agents, Wed Nov 11 2026. No macro, syntax, notation, axiom, sorry.
-/
import Derived.Test.YtkagbffdmppbhaaDoorRows
import GoSem.ClaimSeven
namespace Go.Proofs.YtkagbffdmppbhaaDoor
namespace Rows

/-- THE TIED CARD OF 'laws.FnLit'. -/
def fnLitCard : Claim7 := { stood := { row := fnLitRow, standIns := [], harness := (true, "4f11e699425fdd24906de9271316e90fe7fcf0e5e0e0c3e73a8291b49ab00d9e"), looks := false }, kinds := [], alts := [], laidByText := true, laidKinds := [.data, .data], laidTests := true, laidLooks := .later }
def FnLitCardSaid : Prop := Claim7.holds Tryd.pinned (.plain (OpenSpec.ofChange fnLitSpec)) fnLitCard

/-- THE TIED CARD OF 'laws.FnExactJournalOf'. -/
def fnExactJournalOfCard : Claim7 := { stood := { row := fnExactJournalOfRow, standIns := [], harness := (true, "4f11e699425fdd24906de9271316e90fe7fcf0e5e0e0c3e73a8291b49ab00d9e"), looks := false }, kinds := [], alts := [], laidByText := true, laidKinds := [.data, .data, .data], laidTests := true, laidLooks := .later }
def FnExactJournalOfCardSaid : Prop := Claim7.holds Tryd.pinned (.plain (OpenSpec.ofChange fnExactJournalOfSpec)) fnExactJournalOfCard

/-- THE TIED CARD OF 'laws.FnRestored'. -/
def fnRestoredCard : Claim7 := { stood := { row := fnRestoredRow, standIns := [], harness := (true, "4f11e699425fdd24906de9271316e90fe7fcf0e5e0e0c3e73a8291b49ab00d9e"), looks := false }, kinds := [], alts := [], laidByText := true, laidKinds := [.data, .data], laidTests := true, laidLooks := .later }
def FnRestoredCardSaid : Prop := Claim7.holds Tryd.pinned (.plain (OpenSpec.ofChange fnRestoredSpec)) fnRestoredCard

/-- THE TIED CARD OF 'laws.FnExactRecoverJournal'. -/
def fnExactRecoverJournalCard : Claim7 := { stood := { row := fnExactRecoverJournalRow, standIns := [], harness := (true, "4f11e699425fdd24906de9271316e90fe7fcf0e5e0e0c3e73a8291b49ab00d9e"), looks := false }, kinds := [], alts := [], laidByText := true, laidKinds := [.data, .data, .data], laidTests := true, laidLooks := .later }
def FnExactRecoverJournalCardSaid : Prop := Claim7.holds Tryd.pinned (.plain (OpenSpec.ofChange fnExactRecoverJournalSpec)) fnExactRecoverJournalCard

/-- THE SECOND FORM's CARD OF 'laws.FnLit'. -/
def fnLitUptoCard : Claim7 := { stood := { row := fnLitUptoRow, standIns := [], harness := (true, "4f11e699425fdd24906de9271316e90fe7fcf0e5e0e0c3e73a8291b49ab00d9e"), looks := false }, kinds := [], alts := [], laidByText := true, laidKinds := [.data, .data], laidTests := true, laidLooks := .later }
def FnLitUptoCardSaid : Prop := Claim7.holds Tryd.pinned (.plain (OpenSpec.upto fnLitSpec)) fnLitUptoCard

/-- THE SECOND FORM's CARD OF 'laws.FnExactJournalOf'. -/
def fnExactJournalOfUptoCard : Claim7 := { stood := { row := fnExactJournalOfUptoRow, standIns := [], harness := (true, "4f11e699425fdd24906de9271316e90fe7fcf0e5e0e0c3e73a8291b49ab00d9e"), looks := false }, kinds := [], alts := [], laidByText := true, laidKinds := [.data, .data, .data], laidTests := true, laidLooks := .later }
def FnExactJournalOfUptoCardSaid : Prop := Claim7.holds Tryd.pinned (.plain (OpenSpec.upto fnExactJournalOfSpec)) fnExactJournalOfUptoCard

/-- THE SECOND FORM's CARD OF 'laws.FnRestored'. -/
def fnRestoredUptoCard : Claim7 := { stood := { row := fnRestoredUptoRow, standIns := [], harness := (true, "4f11e699425fdd24906de9271316e90fe7fcf0e5e0e0c3e73a8291b49ab00d9e"), looks := false }, kinds := [], alts := [], laidByText := true, laidKinds := [.data, .data], laidTests := true, laidLooks := .later }
def FnRestoredUptoCardSaid : Prop := Claim7.holds Tryd.pinned (.plain (OpenSpec.upto fnRestoredSpec)) fnRestoredUptoCard

/-- THE SECOND FORM's CARD OF 'laws.FnExactRecoverJournal'. -/
def fnExactRecoverJournalUptoCard : Claim7 := { stood := { row := fnExactRecoverJournalUptoRow, standIns := [], harness := (true, "4f11e699425fdd24906de9271316e90fe7fcf0e5e0e0c3e73a8291b49ab00d9e"), looks := false }, kinds := [], alts := [], laidByText := true, laidKinds := [.data, .data, .data], laidTests := true, laidLooks := .later }
def FnExactRecoverJournalUptoCardSaid : Prop := Claim7.holds Tryd.pinned (.plain (OpenSpec.upto fnExactRecoverJournalSpec)) fnExactRecoverJournalUptoCard
end Rows
end Go.Proofs.YtkagbffdmppbhaaDoor
