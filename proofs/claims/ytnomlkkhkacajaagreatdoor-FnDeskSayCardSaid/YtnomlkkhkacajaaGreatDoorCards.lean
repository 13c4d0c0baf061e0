/-
  DERIVED. GIVEN WITH THE SEED: THE CARDS: each row of YtnomlkkhkacajaaGreatDoorRows.lean that lists a variable, with what it lists TIED to the program's text (the seventh form; the later family's looks); each row that meets fmt, with fmt's text TOLD by the authors' own Lean function (tested against real Go, not proved from fmt's source: count such statements apart). THE CARD IS WHAT COUNTS. Prove the row's statement (the work); the ties are given (YtnomlkkhkacajaaGreatDoorTie.lean); close each card by the builder's one call (the guide's Derived/Test/ToyasCard.lean, 'card_holds'). Laid BY PROGRAM, IN A SANDBOX (cutbox-door.mjs). By AI agents, Wed Nov 11 2026. No macro, syntax, notation, axiom, sorry.
-/
import Derived.Test.YtnomlkkhkacajaaGreatDoorRows
import GoSem.ClaimSeven
namespace Go.Proofs.YtnomlkkhkacajaaGreatDoor
namespace Rows

/-- THE TIED CARD OF 'laws.FnDeskDo'. -/
def fnDeskDoCard : Claim7 := { stood := { row := fnDeskDoRow, standIns := [], harness := (true, "5da1587834ddbc0c2fddd2189901bd10bb828a8f44e49bd3a8f0d407382cdd75"), looks := true }, kinds := [], alts := [], laidByText := true, laidKinds := [.data, .data, .data, .sentinel, .sentinel], laidTests := true, laidLooks := .later }
def FnDeskDoCardSaid : Prop := Claim7.holds Tryz.pinned (.plain (OpenSpec.ofChange fnDeskDoSpec)) fnDeskDoCard

/-- THE TIED CARD OF 'laws.FnDeskRun'. -/
def fnDeskRunCard : Claim7 := { stood := { row := fnDeskRunRow, standIns := [], harness := (true, "5da1587834ddbc0c2fddd2189901bd10bb828a8f44e49bd3a8f0d407382cdd75"), looks := true }, kinds := [], alts := [], laidByText := true, laidKinds := [.data, .data, .data, .sentinel, .sentinel], laidTests := true, laidLooks := .later }
def FnDeskRunCardSaid : Prop := Claim7.holds Tryz.pinned (.plain (OpenSpec.ofChange fnDeskRunSpec)) fnDeskRunCard

/-- THE TIED CARD OF 'laws.FnDeskLine'. -/
def fnDeskLineCard : Claim7 := { stood := { row := fnDeskLineRow, standIns := [], harness := (true, "5da1587834ddbc0c2fddd2189901bd10bb828a8f44e49bd3a8f0d407382cdd75"), looks := true }, kinds := [], alts := [], laidByText := true, laidKinds := [.data, .data, .data, .sentinel, .sentinel], laidTests := true, laidLooks := .later }
def FnDeskLineCardSaid : Prop := Claim7.holds Tryz.pinned (.plain (OpenSpec.ofChange fnDeskLineSpec)) fnDeskLineCard

/-- THE TIED CARD OF 'laws.FnDeskSay'. -/
def fnDeskSayCard : Claim7 := { stood := { row := fnDeskSayRow, standIns := [], harness := (true, "5da1587834ddbc0c2fddd2189901bd10bb828a8f44e49bd3a8f0d407382cdd75"), looks := true }, kinds := [], alts := [], laidByText := true, laidKinds := [.data, .data, .data, .sentinel, .sentinel], laidTests := true, laidLooks := .later }
def FnDeskSayCardSaid : Prop := Claim7.holds Tryz.pinned (.plain (OpenSpec.ofChange fnDeskSaySpec)) fnDeskSayCard

/-- THE TIED CARD OF 'laws.FnReadJournal'. -/
def fnReadJournalCard : Claim7 := { stood := { row := fnReadJournalRow, standIns := [], harness := (true, "5da1587834ddbc0c2fddd2189901bd10bb828a8f44e49bd3a8f0d407382cdd75"), looks := true }, kinds := [], alts := [], laidByText := true, laidKinds := [.data, .data, .data, .sentinel, .sentinel], laidTests := true, laidLooks := .later }
def FnReadJournalCardSaid : Prop := Claim7.holds Tryz.pinned (.plain (OpenSpec.ofChange fnReadJournalSpec)) fnReadJournalCard

/-- THE SECOND FORM's CARD OF 'laws.FnDeskDo'. -/
def fnDeskDoUptoCard : Claim7 := { stood := { row := fnDeskDoUptoRow, standIns := [], harness := (true, "5da1587834ddbc0c2fddd2189901bd10bb828a8f44e49bd3a8f0d407382cdd75"), looks := true }, kinds := [], alts := [], laidByText := true, laidKinds := [.data, .data, .data, .sentinel, .sentinel], laidTests := true, laidLooks := .later }
def FnDeskDoUptoCardSaid : Prop := Claim7.holds Tryz.pinned (.plain (OpenSpec.upto fnDeskDoSpec)) fnDeskDoUptoCard

/-- THE SECOND FORM's CARD OF 'laws.FnDeskRun'. -/
def fnDeskRunUptoCard : Claim7 := { stood := { row := fnDeskRunUptoRow, standIns := [], harness := (true, "5da1587834ddbc0c2fddd2189901bd10bb828a8f44e49bd3a8f0d407382cdd75"), looks := true }, kinds := [], alts := [], laidByText := true, laidKinds := [.data, .data, .data, .sentinel, .sentinel], laidTests := true, laidLooks := .later }
def FnDeskRunUptoCardSaid : Prop := Claim7.holds Tryz.pinned (.plain (OpenSpec.upto fnDeskRunSpec)) fnDeskRunUptoCard

/-- THE SECOND FORM's CARD OF 'laws.FnDeskLine'. -/
def fnDeskLineUptoCard : Claim7 := { stood := { row := fnDeskLineUptoRow, standIns := [], harness := (true, "5da1587834ddbc0c2fddd2189901bd10bb828a8f44e49bd3a8f0d407382cdd75"), looks := true }, kinds := [], alts := [], laidByText := true, laidKinds := [.data, .data, .data, .sentinel, .sentinel], laidTests := true, laidLooks := .later }
def FnDeskLineUptoCardSaid : Prop := Claim7.holds Tryz.pinned (.plain (OpenSpec.upto fnDeskLineSpec)) fnDeskLineUptoCard

/-- THE SECOND FORM's CARD OF 'laws.FnDeskSay'. -/
def fnDeskSayUptoCard : Claim7 := { stood := { row := fnDeskSayUptoRow, standIns := [], harness := (true, "5da1587834ddbc0c2fddd2189901bd10bb828a8f44e49bd3a8f0d407382cdd75"), looks := true }, kinds := [], alts := [], laidByText := true, laidKinds := [.data, .data, .data, .sentinel, .sentinel], laidTests := true, laidLooks := .later }
def FnDeskSayUptoCardSaid : Prop := Claim7.holds Tryz.pinned (.plain (OpenSpec.upto fnDeskSaySpec)) fnDeskSayUptoCard

/-- THE SECOND FORM's CARD OF 'laws.FnReadJournal'. -/
def fnReadJournalUptoCard : Claim7 := { stood := { row := fnReadJournalUptoRow, standIns := [], harness := (true, "5da1587834ddbc0c2fddd2189901bd10bb828a8f44e49bd3a8f0d407382cdd75"), looks := true }, kinds := [], alts := [], laidByText := true, laidKinds := [.data, .data, .data, .sentinel, .sentinel], laidTests := true, laidLooks := .later }
def FnReadJournalUptoCardSaid : Prop := Claim7.holds Tryz.pinned (.plain (OpenSpec.upto fnReadJournalSpec)) fnReadJournalUptoCard
end Rows
end Go.Proofs.YtnomlkkhkacajaaGreatDoor
