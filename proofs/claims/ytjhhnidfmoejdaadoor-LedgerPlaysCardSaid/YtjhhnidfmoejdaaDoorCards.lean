/-
  DERIVED. GIVEN WITH THE SEED: THE CARDS: each row of YtjhhnidfmoejdaaDoorRows.lean that lists a variable, with what it lists TIED to the program's text (the seventh form; the later family's looks); each row that meets fmt, with fmt's text TOLD by the authors' own Lean function (tested against real Go, not proved from fmt's source: count such statements apart). THE CARD IS WHAT COUNTS. Prove the row's statement (the work); the ties are given (YtjhhnidfmoejdaaDoorTie.lean); close each card by the builder's one call (the guide's Derived/Test/ToyasCard.lean, 'card_holds'). Laid BY PROGRAM, IN A SANDBOX (cutbox-door.mjs). By AI agents, Wed Nov 11 2026. No macro, syntax, notation, axiom, sorry.
-/
import Derived.Test.YtjhhnidfmoejdaaDoorRows
import GoSem.ClaimSeven
namespace Go.Proofs.YtjhhnidfmoejdaaDoor
namespace Rows

/-- THE TIED CARD OF 'switchboardlaw25.LedgerRefused'. -/
def ledgerRefusedCard : Claim7 := { stood := { row := ledgerRefusedRow, standIns := [], harness := (true, "4e976a3608822435b5bba5841388fc334739a65a566f5b20e7eeb6988b2ebaca"), looks := true }, kinds := [], alts := [], laidByText := true, laidKinds := [.data, .data, .data], laidTests := true, laidLooks := .later }
def LedgerRefusedCardSaid : Prop := Claim7.holds Tryd.pinned (.plain (OpenSpec.ofChange ledgerRefusedSpec)) ledgerRefusedCard

/-- THE TIED CARD OF 'switchboardlaw25.LedgerPlays'. -/
def ledgerPlaysCard : Claim7 := { stood := { row := ledgerPlaysRow, standIns := [], harness := (true, "4e976a3608822435b5bba5841388fc334739a65a566f5b20e7eeb6988b2ebaca"), looks := true }, kinds := [], alts := [], laidByText := true, laidKinds := [.data, .data, .data], laidTests := true, laidLooks := .later }
def LedgerPlaysCardSaid : Prop := Claim7.holds Tryd.pinned (.plain (OpenSpec.ofChange ledgerPlaysSpec)) ledgerPlaysCard

/-- THE SECOND FORM's CARD OF 'switchboardlaw25.LedgerRefused'. -/
def ledgerRefusedUptoCard : Claim7 := { stood := { row := ledgerRefusedUptoRow, standIns := [], harness := (true, "4e976a3608822435b5bba5841388fc334739a65a566f5b20e7eeb6988b2ebaca"), looks := true }, kinds := [], alts := [], laidByText := true, laidKinds := [.data, .data, .data], laidTests := true, laidLooks := .later }
def LedgerRefusedUptoCardSaid : Prop := Claim7.holds Tryd.pinned (.plain (OpenSpec.upto ledgerRefusedSpec)) ledgerRefusedUptoCard

/-- THE SECOND FORM's CARD OF 'switchboardlaw25.LedgerPlays'. -/
def ledgerPlaysUptoCard : Claim7 := { stood := { row := ledgerPlaysUptoRow, standIns := [], harness := (true, "4e976a3608822435b5bba5841388fc334739a65a566f5b20e7eeb6988b2ebaca"), looks := true }, kinds := [], alts := [], laidByText := true, laidKinds := [.data, .data, .data], laidTests := true, laidLooks := .later }
def LedgerPlaysUptoCardSaid : Prop := Claim7.holds Tryd.pinned (.plain (OpenSpec.upto ledgerPlaysSpec)) ledgerPlaysUptoCard
end Rows
end Go.Proofs.YtjhhnidfmoejdaaDoor
