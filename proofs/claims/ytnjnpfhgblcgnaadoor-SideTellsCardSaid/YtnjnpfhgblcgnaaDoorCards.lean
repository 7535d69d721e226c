/-
  DERIVED. GIVEN WITH THE SEED: THE CARDS: each row of YtnjnpfhgblcgnaaDoorRows.lean that lists a variable, with what it lists TIED to the program's text (the seventh form; the later family's looks); each row that meets fmt, with fmt's text TOLD by the authors' own Lean function (tested against real Go, not proved from fmt's source: count such statements apart). THE CARD IS WHAT COUNTS. Prove the row's statement (the work); the ties are given (YtnjnpfhgblcgnaaDoorTie.lean); close each card by the builder's one call (the guide's Derived/Test/ToyasCard.lean, 'card_holds'). Laid BY PROGRAM, IN A SANDBOX (cutbox-door.mjs). By AI agents, Wed Nov 11 2026. No macro, syntax, notation, axiom, sorry.
-/
import Derived.Test.YtnjnpfhgblcgnaaDoorRows
import GoSem.ClaimSeven
namespace Go.Proofs.YtnjnpfhgblcgnaaDoor
namespace Rows

/-- THE TIED CARD OF 'pitlaw2.WakePlays'. -/
def wakePlaysCard : Claim7 := { stood := { row := wakePlaysRow, standIns := [], harness := (true, "489d0dbb696d63c19759591fb2b6a0dde551c9b4f692a1a0e70227aaab97afdb"), looks := true }, kinds := [], alts := [], laidByText := true, laidKinds := [.handle], laidTests := true, laidLooks := .later }
def WakePlaysCardSaid : Prop := Claim7.holds Tryd.pinned (.plain (OpenSpec.ofChange wakePlaysSpec)) wakePlaysCard

/-- THE TIED CARD OF 'pitlaw1.SideTells'. -/
def sideTellsCard : Claim7 := { stood := { row := sideTellsRow, standIns := [], harness := (true, "489d0dbb696d63c19759591fb2b6a0dde551c9b4f692a1a0e70227aaab97afdb"), looks := true }, kinds := [], alts := [], laidByText := true, laidKinds := [.handle], laidTests := true, laidLooks := .later }
def SideTellsCardSaid : Prop := Claim7.holds Tryd.pinned (.plain (OpenSpec.ofChange sideTellsSpec)) sideTellsCard

/-- THE TIED CARD OF 'pitlaw2.CallTells'. -/
def callTellsCard : Claim7 := { stood := { row := callTellsRow, standIns := [], harness := (true, "489d0dbb696d63c19759591fb2b6a0dde551c9b4f692a1a0e70227aaab97afdb"), looks := true }, kinds := [], alts := [], laidByText := true, laidKinds := [.handle], laidTests := true, laidLooks := .later }
def CallTellsCardSaid : Prop := Claim7.holds Tryd.pinned (.plain (OpenSpec.ofChange callTellsSpec)) callTellsCard

/-- THE TIED CARD OF 'pitlaw3.TapeTells'. -/
def tapeTellsCard : Claim7 := { stood := { row := tapeTellsRow, standIns := [], harness := (true, "489d0dbb696d63c19759591fb2b6a0dde551c9b4f692a1a0e70227aaab97afdb"), looks := true }, kinds := [], alts := [], laidByText := true, laidKinds := [.data, .data, .data, .handle], laidTests := true, laidLooks := .later }
def TapeTellsCardSaid : Prop := Claim7.holds Tryd.pinned (.plain (OpenSpec.ofChange tapeTellsSpec)) tapeTellsCard

/-- THE SECOND FORM's CARD OF 'pitlaw2.WakePlays'. -/
def wakePlaysUptoCard : Claim7 := { stood := { row := wakePlaysUptoRow, standIns := [], harness := (true, "489d0dbb696d63c19759591fb2b6a0dde551c9b4f692a1a0e70227aaab97afdb"), looks := true }, kinds := [], alts := [], laidByText := true, laidKinds := [.handle], laidTests := true, laidLooks := .later }
def WakePlaysUptoCardSaid : Prop := Claim7.holds Tryd.pinned (.plain (OpenSpec.upto wakePlaysSpec)) wakePlaysUptoCard

/-- THE SECOND FORM's CARD OF 'pitlaw1.SideTells'. -/
def sideTellsUptoCard : Claim7 := { stood := { row := sideTellsUptoRow, standIns := [], harness := (true, "489d0dbb696d63c19759591fb2b6a0dde551c9b4f692a1a0e70227aaab97afdb"), looks := true }, kinds := [], alts := [], laidByText := true, laidKinds := [.handle], laidTests := true, laidLooks := .later }
def SideTellsUptoCardSaid : Prop := Claim7.holds Tryd.pinned (.plain (OpenSpec.upto sideTellsSpec)) sideTellsUptoCard

/-- THE SECOND FORM's CARD OF 'pitlaw2.CallTells'. -/
def callTellsUptoCard : Claim7 := { stood := { row := callTellsUptoRow, standIns := [], harness := (true, "489d0dbb696d63c19759591fb2b6a0dde551c9b4f692a1a0e70227aaab97afdb"), looks := true }, kinds := [], alts := [], laidByText := true, laidKinds := [.handle], laidTests := true, laidLooks := .later }
def CallTellsUptoCardSaid : Prop := Claim7.holds Tryd.pinned (.plain (OpenSpec.upto callTellsSpec)) callTellsUptoCard

/-- THE SECOND FORM's CARD OF 'pitlaw3.TapeTells'. -/
def tapeTellsUptoCard : Claim7 := { stood := { row := tapeTellsUptoRow, standIns := [], harness := (true, "489d0dbb696d63c19759591fb2b6a0dde551c9b4f692a1a0e70227aaab97afdb"), looks := true }, kinds := [], alts := [], laidByText := true, laidKinds := [.data, .data, .data, .handle], laidTests := true, laidLooks := .later }
def TapeTellsUptoCardSaid : Prop := Claim7.holds Tryd.pinned (.plain (OpenSpec.upto tapeTellsSpec)) tapeTellsUptoCard
end Rows
end Go.Proofs.YtnjnpfhgblcgnaaDoor
