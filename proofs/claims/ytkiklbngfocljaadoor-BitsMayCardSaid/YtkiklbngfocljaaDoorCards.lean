/-
  DERIVED. GIVEN WITH THE SEED: THE CARDS: each row of YtkiklbngfocljaaDoorRows.lean that lists a variable, with what it lists TIED to the program's text (the seventh form; the later family's looks); each row that meets fmt, with fmt's text TOLD by the authors' own Lean function (tested against real Go, not proved from fmt's source: count such statements apart). THE CARD IS WHAT COUNTS. Prove the row's statement (the work); the ties are given (YtkiklbngfocljaaDoorTie.lean); close each card by the builder's one call (the guide's Derived/Test/ToyasCard.lean, 'card_holds'). Laid BY PROGRAM, IN A SANDBOX (cutbox-door.mjs). By AI agents, Wed Nov 11 2026. No macro, syntax, notation, axiom, sorry.
-/
import Derived.Test.YtkiklbngfocljaaDoorRows
import GoSem.ClaimSeven
namespace Go.Proofs.YtkiklbngfocljaaDoor
namespace Rows

/-- THE TIED CARD OF 'yardarmlaw04.BitsOnes'. -/
def bitsOnesCard : Claim7 := { stood := { row := bitsOnesRow, standIns := [], harness := (true, "74790a1a7aece2687d147490d4909902dcd85b73f8816efadf86eff86c3d86ba"), looks := false }, kinds := [], alts := [], laidByText := true, laidKinds := [.data], laidTests := true, laidLooks := .later }
def BitsOnesCardSaid : Prop := Claim7.holds Tryd.pinned (.plain (OpenSpec.ofChange bitsOnesSpec)) bitsOnesCard

/-- THE TIED CARD OF 'yardarmlaw04.BitsMay'. -/
def bitsMayCard : Claim7 := { stood := { row := bitsMayRow, standIns := [], harness := (true, "74790a1a7aece2687d147490d4909902dcd85b73f8816efadf86eff86c3d86ba"), looks := false }, kinds := [], alts := [], laidByText := true, laidKinds := [.data], laidTests := true, laidLooks := .later }
def BitsMayCardSaid : Prop := Claim7.holds Tryd.pinned (.plain (OpenSpec.ofChange bitsMaySpec)) bitsMayCard

/-- THE TIED CARD OF 'yardarmlaw04.BitsSets'. -/
def bitsSetsCard : Claim7 := { stood := { row := bitsSetsRow, standIns := [], harness := (true, "74790a1a7aece2687d147490d4909902dcd85b73f8816efadf86eff86c3d86ba"), looks := false }, kinds := [], alts := [], laidByText := true, laidKinds := [.data], laidTests := true, laidLooks := .later }
def BitsSetsCardSaid : Prop := Claim7.holds Tryd.pinned (.plain (OpenSpec.ofChange bitsSetsSpec)) bitsSetsCard

/-- THE TIED CARD OF 'yardarmlaw04.BitsTurns'. -/
def bitsTurnsCard : Claim7 := { stood := { row := bitsTurnsRow, standIns := [], harness := (true, "74790a1a7aece2687d147490d4909902dcd85b73f8816efadf86eff86c3d86ba"), looks := false }, kinds := [], alts := [], laidByText := true, laidKinds := [.data], laidTests := true, laidLooks := .later }
def BitsTurnsCardSaid : Prop := Claim7.holds Tryd.pinned (.plain (OpenSpec.ofChange bitsTurnsSpec)) bitsTurnsCard

/-- THE TIED CARD OF 'yardarmlaw04.BitsBack'. -/
def bitsBackCard : Claim7 := { stood := { row := bitsBackRow, standIns := [], harness := (true, "74790a1a7aece2687d147490d4909902dcd85b73f8816efadf86eff86c3d86ba"), looks := false }, kinds := [], alts := [], laidByText := true, laidKinds := [.data], laidTests := true, laidLooks := .later }
def BitsBackCardSaid : Prop := Claim7.holds Tryd.pinned (.plain (OpenSpec.ofChange bitsBackSpec)) bitsBackCard

/-- THE TIED CARD OF 'yardarmlaw04.BitsParts'. -/
def bitsPartsCard : Claim7 := { stood := { row := bitsPartsRow, standIns := [], harness := (true, "74790a1a7aece2687d147490d4909902dcd85b73f8816efadf86eff86c3d86ba"), looks := false }, kinds := [], alts := [], laidByText := true, laidKinds := [.data], laidTests := true, laidLooks := .later }
def BitsPartsCardSaid : Prop := Claim7.holds Tryd.pinned (.plain (OpenSpec.ofChange bitsPartsSpec)) bitsPartsCard

/-- THE SECOND FORM's CARD OF 'yardarmlaw04.BitsOnes'. -/
def bitsOnesUptoCard : Claim7 := { stood := { row := bitsOnesUptoRow, standIns := [], harness := (true, "74790a1a7aece2687d147490d4909902dcd85b73f8816efadf86eff86c3d86ba"), looks := false }, kinds := [], alts := [], laidByText := true, laidKinds := [.data], laidTests := true, laidLooks := .later }
def BitsOnesUptoCardSaid : Prop := Claim7.holds Tryd.pinned (.plain (OpenSpec.upto bitsOnesSpec)) bitsOnesUptoCard

/-- THE SECOND FORM's CARD OF 'yardarmlaw04.BitsMay'. -/
def bitsMayUptoCard : Claim7 := { stood := { row := bitsMayUptoRow, standIns := [], harness := (true, "74790a1a7aece2687d147490d4909902dcd85b73f8816efadf86eff86c3d86ba"), looks := false }, kinds := [], alts := [], laidByText := true, laidKinds := [.data], laidTests := true, laidLooks := .later }
def BitsMayUptoCardSaid : Prop := Claim7.holds Tryd.pinned (.plain (OpenSpec.upto bitsMaySpec)) bitsMayUptoCard

/-- THE SECOND FORM's CARD OF 'yardarmlaw04.BitsSets'. -/
def bitsSetsUptoCard : Claim7 := { stood := { row := bitsSetsUptoRow, standIns := [], harness := (true, "74790a1a7aece2687d147490d4909902dcd85b73f8816efadf86eff86c3d86ba"), looks := false }, kinds := [], alts := [], laidByText := true, laidKinds := [.data], laidTests := true, laidLooks := .later }
def BitsSetsUptoCardSaid : Prop := Claim7.holds Tryd.pinned (.plain (OpenSpec.upto bitsSetsSpec)) bitsSetsUptoCard

/-- THE SECOND FORM's CARD OF 'yardarmlaw04.BitsTurns'. -/
def bitsTurnsUptoCard : Claim7 := { stood := { row := bitsTurnsUptoRow, standIns := [], harness := (true, "74790a1a7aece2687d147490d4909902dcd85b73f8816efadf86eff86c3d86ba"), looks := false }, kinds := [], alts := [], laidByText := true, laidKinds := [.data], laidTests := true, laidLooks := .later }
def BitsTurnsUptoCardSaid : Prop := Claim7.holds Tryd.pinned (.plain (OpenSpec.upto bitsTurnsSpec)) bitsTurnsUptoCard

/-- THE SECOND FORM's CARD OF 'yardarmlaw04.BitsBack'. -/
def bitsBackUptoCard : Claim7 := { stood := { row := bitsBackUptoRow, standIns := [], harness := (true, "74790a1a7aece2687d147490d4909902dcd85b73f8816efadf86eff86c3d86ba"), looks := false }, kinds := [], alts := [], laidByText := true, laidKinds := [.data], laidTests := true, laidLooks := .later }
def BitsBackUptoCardSaid : Prop := Claim7.holds Tryd.pinned (.plain (OpenSpec.upto bitsBackSpec)) bitsBackUptoCard

/-- THE SECOND FORM's CARD OF 'yardarmlaw04.BitsParts'. -/
def bitsPartsUptoCard : Claim7 := { stood := { row := bitsPartsUptoRow, standIns := [], harness := (true, "74790a1a7aece2687d147490d4909902dcd85b73f8816efadf86eff86c3d86ba"), looks := false }, kinds := [], alts := [], laidByText := true, laidKinds := [.data], laidTests := true, laidLooks := .later }
def BitsPartsUptoCardSaid : Prop := Claim7.holds Tryd.pinned (.plain (OpenSpec.upto bitsPartsSpec)) bitsPartsUptoCard
end Rows
end Go.Proofs.YtkiklbngfocljaaDoor
