/-
  DERIVED. GIVEN WITH THE SEED: THE CARDS: each row of YtdgkahieegcmeaaDoorRows.lean that lists a variable, with what it lists TIED to the program's text (the seventh form; the later family's looks); each row that meets fmt, with fmt's text TOLD by the authors' own Lean function (tested against real Go, not proved from fmt's source: count such statements apart). THE CARD IS WHAT COUNTS. Prove the row's statement (the work); the ties are given (YtdgkahieegcmeaaDoorTie.lean); close each card by the builder's one call (the guide's Derived/Test/ToyasCard.lean, 'card_holds'). Laid BY PROGRAM, IN A SANDBOX (cutbox-door.mjs). By AI agents, Wed Nov 11 2026. No macro, syntax, notation, axiom, sorry.
-/
import Derived.Test.YtdgkahieegcmeaaDoorRows
import GoSem.ClaimSeven
namespace Go.Proofs.YtdgkahieegcmeaaDoor
namespace Rows

/-- THE TIED CARD OF 'laws.FnProducts'. -/
def fnProductsCard : Claim7 := { stood := { row := fnProductsRow, standIns := [], harness := (true, "bde82c74910e310f4e650a72ab99882e423a87067af7cf2ce785be6043ed34ac"), looks := false }, kinds := [], alts := [], laidByText := true, laidKinds := [.data, .pinned], laidTests := true, laidLooks := .later }
def FnProductsCardSaid : Prop := Claim7.holds Tryd.pinned (.plain (OpenSpec.ofChange fnProductsSpec)) fnProductsCard

/-- THE TIED CARD OF 'laws.FnNumbers'. -/
def fnNumbersCard : Claim7 := { stood := { row := fnNumbersRow, standIns := [], harness := (true, "bde82c74910e310f4e650a72ab99882e423a87067af7cf2ce785be6043ed34ac"), looks := false }, kinds := [], alts := [], laidByText := true, laidKinds := [.data, .pinned], laidTests := true, laidLooks := .later }
def FnNumbersCardSaid : Prop := Claim7.holds Tryd.pinned (.plain (OpenSpec.ofChange fnNumbersSpec)) fnNumbersCard

/-- THE TIED CARD OF 'laws.FnJournal'. -/
def fnJournalCard : Claim7 := { stood := { row := fnJournalRow, standIns := [], harness := (true, "bde82c74910e310f4e650a72ab99882e423a87067af7cf2ce785be6043ed34ac"), looks := false }, kinds := [], alts := [], laidByText := true, laidKinds := [.data, .data, .data], laidTests := true, laidLooks := .later }
def FnJournalCardSaid : Prop := Claim7.holds Tryd.pinned (.plain (OpenSpec.ofChange fnJournalSpec)) fnJournalCard

/-- THE SECOND FORM's CARD OF 'laws.FnProducts'. -/
def fnProductsUptoCard : Claim7 := { stood := { row := fnProductsUptoRow, standIns := [], harness := (true, "bde82c74910e310f4e650a72ab99882e423a87067af7cf2ce785be6043ed34ac"), looks := false }, kinds := [], alts := [], laidByText := true, laidKinds := [.data, .pinned], laidTests := true, laidLooks := .later }
def FnProductsUptoCardSaid : Prop := Claim7.holds Tryd.pinned (.plain (OpenSpec.upto fnProductsSpec)) fnProductsUptoCard

/-- THE SECOND FORM's CARD OF 'laws.FnNumbers'. -/
def fnNumbersUptoCard : Claim7 := { stood := { row := fnNumbersUptoRow, standIns := [], harness := (true, "bde82c74910e310f4e650a72ab99882e423a87067af7cf2ce785be6043ed34ac"), looks := false }, kinds := [], alts := [], laidByText := true, laidKinds := [.data, .pinned], laidTests := true, laidLooks := .later }
def FnNumbersUptoCardSaid : Prop := Claim7.holds Tryd.pinned (.plain (OpenSpec.upto fnNumbersSpec)) fnNumbersUptoCard

/-- THE SECOND FORM's CARD OF 'laws.FnJournal'. -/
def fnJournalUptoCard : Claim7 := { stood := { row := fnJournalUptoRow, standIns := [], harness := (true, "bde82c74910e310f4e650a72ab99882e423a87067af7cf2ce785be6043ed34ac"), looks := false }, kinds := [], alts := [], laidByText := true, laidKinds := [.data, .data, .data], laidTests := true, laidLooks := .later }
def FnJournalUptoCardSaid : Prop := Claim7.holds Tryd.pinned (.plain (OpenSpec.upto fnJournalSpec)) fnJournalUptoCard
end Rows
end Go.Proofs.YtdgkahieegcmeaaDoor
