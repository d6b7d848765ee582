/-
  DERIVED. GIVEN WITH THE SEED: THE CARDS: each row of YtpfmbehhppbcnaaDoorRows.lean that lists a variable, with what it lists TIED to the program's text (the seventh form; the later family's looks); each row that meets fmt, with fmt's text TOLD by the authors' own Lean function (tested against real Go, not proved from fmt's source: count such statements apart). THE CARD IS WHAT COUNTS. Prove the row's statement (the work); the ties are given (YtpfmbehhppbcnaaDoorTie.lean); close each card by the builder's one call (the guide's Derived/Test/ToyasCard.lean, 'card_holds'). Laid BY PROGRAM, IN A SANDBOX (cutbox-door.mjs). By AI agents, Wed Nov 11 2026. No macro, syntax, notation, axiom, sorry.
-/
import Derived.Test.YtpfmbehhppbcnaaDoorRows
import GoSem.ClaimSeven
namespace Go.Proofs.YtpfmbehhppbcnaaDoor
namespace Rows

/-- THE TIED CARD OF 'yardarmlaw10.NamesAll'. -/
def namesAllCard : Claim7 := { stood := { row := namesAllRow, standIns := [], harness := (true, "70f23494043b19f5e0e60e9fed8aed79e2b86b30c49e60e654593c8aa9a87367"), looks := false }, kinds := [], alts := [], laidByText := true, laidKinds := [.data, .pinned], laidTests := true, laidLooks := .later }
def NamesAllCardSaid : Prop := Claim7.holds Tryd.pinned (.plain (OpenSpec.ofChange namesAllSpec)) namesAllCard

/-- THE TIED CARD OF 'yardarmlaw10.NamesMoves'. -/
def namesMovesCard : Claim7 := { stood := { row := namesMovesRow, standIns := [], harness := (true, "70f23494043b19f5e0e60e9fed8aed79e2b86b30c49e60e654593c8aa9a87367"), looks := false }, kinds := [], alts := [], laidByText := true, laidKinds := [.data, .pinned], laidTests := true, laidLooks := .later }
def NamesMovesCardSaid : Prop := Claim7.holds Tryd.pinned (.plain (OpenSpec.ofChange namesMovesSpec)) namesMovesCard

/-- THE TIED CARD OF 'yardarmlaw10.NamesMay'. -/
def namesMayCard : Claim7 := { stood := { row := namesMayRow, standIns := [], harness := (true, "70f23494043b19f5e0e60e9fed8aed79e2b86b30c49e60e654593c8aa9a87367"), looks := false }, kinds := [], alts := [], laidByText := true, laidKinds := [.data, .pinned], laidTests := true, laidLooks := .later }
def NamesMayCardSaid : Prop := Claim7.holds Tryd.pinned (.plain (OpenSpec.ofChange namesMaySpec)) namesMayCard

/-- THE TIED CARD OF 'yardarmlaw10.NamesPuts'. -/
def namesPutsCard : Claim7 := { stood := { row := namesPutsRow, standIns := [], harness := (true, "70f23494043b19f5e0e60e9fed8aed79e2b86b30c49e60e654593c8aa9a87367"), looks := false }, kinds := [], alts := [], laidByText := true, laidKinds := [.data, .pinned], laidTests := true, laidLooks := .later }
def NamesPutsCardSaid : Prop := Claim7.holds Tryd.pinned (.plain (OpenSpec.ofChange namesPutsSpec)) namesPutsCard

/-- THE TIED CARD OF 'yardarmlaw10.NamesBack'. -/
def namesBackCard : Claim7 := { stood := { row := namesBackRow, standIns := [], harness := (true, "70f23494043b19f5e0e60e9fed8aed79e2b86b30c49e60e654593c8aa9a87367"), looks := false }, kinds := [], alts := [], laidByText := true, laidKinds := [.data, .pinned], laidTests := true, laidLooks := .later }
def NamesBackCardSaid : Prop := Claim7.holds Tryd.pinned (.plain (OpenSpec.ofChange namesBackSpec)) namesBackCard

/-- THE SECOND FORM's CARD OF 'yardarmlaw10.NamesAll'. -/
def namesAllUptoCard : Claim7 := { stood := { row := namesAllUptoRow, standIns := [], harness := (true, "70f23494043b19f5e0e60e9fed8aed79e2b86b30c49e60e654593c8aa9a87367"), looks := false }, kinds := [], alts := [], laidByText := true, laidKinds := [.data, .pinned], laidTests := true, laidLooks := .later }
def NamesAllUptoCardSaid : Prop := Claim7.holds Tryd.pinned (.plain (OpenSpec.upto namesAllSpec)) namesAllUptoCard

/-- THE SECOND FORM's CARD OF 'yardarmlaw10.NamesMoves'. -/
def namesMovesUptoCard : Claim7 := { stood := { row := namesMovesUptoRow, standIns := [], harness := (true, "70f23494043b19f5e0e60e9fed8aed79e2b86b30c49e60e654593c8aa9a87367"), looks := false }, kinds := [], alts := [], laidByText := true, laidKinds := [.data, .pinned], laidTests := true, laidLooks := .later }
def NamesMovesUptoCardSaid : Prop := Claim7.holds Tryd.pinned (.plain (OpenSpec.upto namesMovesSpec)) namesMovesUptoCard

/-- THE SECOND FORM's CARD OF 'yardarmlaw10.NamesMay'. -/
def namesMayUptoCard : Claim7 := { stood := { row := namesMayUptoRow, standIns := [], harness := (true, "70f23494043b19f5e0e60e9fed8aed79e2b86b30c49e60e654593c8aa9a87367"), looks := false }, kinds := [], alts := [], laidByText := true, laidKinds := [.data, .pinned], laidTests := true, laidLooks := .later }
def NamesMayUptoCardSaid : Prop := Claim7.holds Tryd.pinned (.plain (OpenSpec.upto namesMaySpec)) namesMayUptoCard

/-- THE SECOND FORM's CARD OF 'yardarmlaw10.NamesPuts'. -/
def namesPutsUptoCard : Claim7 := { stood := { row := namesPutsUptoRow, standIns := [], harness := (true, "70f23494043b19f5e0e60e9fed8aed79e2b86b30c49e60e654593c8aa9a87367"), looks := false }, kinds := [], alts := [], laidByText := true, laidKinds := [.data, .pinned], laidTests := true, laidLooks := .later }
def NamesPutsUptoCardSaid : Prop := Claim7.holds Tryd.pinned (.plain (OpenSpec.upto namesPutsSpec)) namesPutsUptoCard

/-- THE SECOND FORM's CARD OF 'yardarmlaw10.NamesBack'. -/
def namesBackUptoCard : Claim7 := { stood := { row := namesBackUptoRow, standIns := [], harness := (true, "70f23494043b19f5e0e60e9fed8aed79e2b86b30c49e60e654593c8aa9a87367"), looks := false }, kinds := [], alts := [], laidByText := true, laidKinds := [.data, .pinned], laidTests := true, laidLooks := .later }
def NamesBackUptoCardSaid : Prop := Claim7.holds Tryd.pinned (.plain (OpenSpec.upto namesBackSpec)) namesBackUptoCard
end Rows
end Go.Proofs.YtpfmbehhppbcnaaDoor
