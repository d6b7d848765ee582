/-
  No cell of these rows narrows 'for every input' (looked for: loops, veiled, ifaces, maps, wideKeys, modest, calm, conditions, laid).
  DERIVED. THE GIVEN ROWS OF THIS SEAT. 5 by the template 'for every input the law returns true; each argument reads behind the call as it read before'; 0 by the template 'total and deterministic' (their statements: YtfkmbnlpdolemaaTotals.lean).
  GIVEN WITH THE SEED: the statements are not yours to turn. If you find one false, say at which input.
  Laid BY PROGRAM, IN A SANDBOX (cutbox-rows.mjs): the forced cells as the released guide's own fill.sh prints them over the translation 5d4967532bc08b50… (all of the seat's roots in one cut). By AI agents, Wed Nov 11 2026. No macro, syntax, notation, axiom, sorry.
-/
import Derived.Test.YtfkmbnlpdolemaaChecked
import GoSem.Claim
import GoSem.ClaimJoined
import GoSem.ClaimMapViews
import Derived.JoinedTies
import Derived.KernelRfl
namespace Go.Proofs.Ytfkmbnlpdolemaa
/- THE CELL 'sum', in the pinned program and in every row, IS THE sha256 OF THE DUMP (.gsa) THAT YtfkmbnlpdolemaaProg.lean LOADS. Nothing in Lean hashes anything: it is a label: what it is worth is what the hold of that sum in a sandbox is worth. -/
noncomputable def Try.pinned : Pinned := { name := "ytfkmbnlpdolemaa", sum := "5d4967532bc08b50f506e4578ddcc9f28c76252a46055898f3338faabe341ad7", checked := Try.checked }
namespace Rows
def none {H : Type} : Left H := { results := [], args := [] }

/-- 'yardarmlaw01.DigitReads': WHATEVER THE INPUT: true; the input reads as it did. -/
def digitReadsSpec : ChangeSpec := { name := "digitReads", fn := fun _ => fun
  | [d1, d2] => { results := [.lit (.bool true)], args := [d1, d2] }
  | _ => none }
def digitReadsRow : OpenClaim := { program := "ytfkmbnlpdolemaa", sum := "5d4967532bc08b50f506e4578ddcc9f28c76252a46055898f3338faabe341ad7", func := "yardarm/yardarmlaw01.DigitReads", spec := "digitReads", inPlace := ["math/bits.Add64"], recurses := true, apart := false }
def DigitReadsSaid : Prop := digitReadsRow.holds Try.pinned (OpenSpec.ofChange digitReadsSpec)

/-- ITS FALSE NEIGHBOUR: 'it returns false'. Refute it at one input. -/
def digitReadsWrong : ChangeSpec := { name := "digitReads", fn := fun _ => fun
  | [d1, d2] => { results := [.lit (.bool false)], args := [d1, d2] }
  | _ => none }
def DigitReadsWrongFalsely : Prop := digitReadsRow.holds Try.pinned (OpenSpec.ofChange digitReadsWrong)

/-- 'yardarmlaw01.DigitBack': WHATEVER THE INPUT: true; the input reads as it did. -/
def digitBackSpec : ChangeSpec := { name := "digitBack", fn := fun _ => fun
  | [d1, d2] => { results := [.lit (.bool true)], args := [d1, d2] }
  | _ => none }
def digitBackRow : OpenClaim := { program := "ytfkmbnlpdolemaa", sum := "5d4967532bc08b50f506e4578ddcc9f28c76252a46055898f3338faabe341ad7", func := "yardarm/yardarmlaw01.DigitBack", spec := "digitBack", inPlace := ["math/bits.Add64"], apart := false }
def DigitBackSaid : Prop := digitBackRow.holds Try.pinned (OpenSpec.ofChange digitBackSpec)

/-- ITS FALSE NEIGHBOUR: 'it returns false'. Refute it at one input. -/
def digitBackWrong : ChangeSpec := { name := "digitBack", fn := fun _ => fun
  | [d1, d2] => { results := [.lit (.bool false)], args := [d1, d2] }
  | _ => none }
def DigitBackWrongFalsely : Prop := digitBackRow.holds Try.pinned (OpenSpec.ofChange digitBackWrong)

/-- 'yardarmlaw01.DigitOrder': WHATEVER THE INPUT: true; the input reads as it did. -/
def digitOrderSpec : ChangeSpec := { name := "digitOrder", fn := fun _ => fun
  | [d1, d2] => { results := [.lit (.bool true)], args := [d1, d2] }
  | _ => none }
def digitOrderRow : OpenClaim := { program := "ytfkmbnlpdolemaa", sum := "5d4967532bc08b50f506e4578ddcc9f28c76252a46055898f3338faabe341ad7", func := "yardarm/yardarmlaw01.DigitOrder", spec := "digitOrder", inPlace := ["math/bits.Add64"], apart := false }
def DigitOrderSaid : Prop := digitOrderRow.holds Try.pinned (OpenSpec.ofChange digitOrderSpec)

/-- ITS FALSE NEIGHBOUR: 'it returns false'. Refute it at one input. -/
def digitOrderWrong : ChangeSpec := { name := "digitOrder", fn := fun _ => fun
  | [d1, d2] => { results := [.lit (.bool false)], args := [d1, d2] }
  | _ => none }
def DigitOrderWrongFalsely : Prop := digitOrderRow.holds Try.pinned (OpenSpec.ofChange digitOrderWrong)

/-- 'yardarmlaw01.DigitReckons': WHATEVER THE INPUT: true; the input reads as it did. -/
def digitReckonsSpec : ChangeSpec := { name := "digitReckons", fn := fun _ => fun
  | [d] => { results := [.lit (.bool true)], args := [d] }
  | _ => none }
def digitReckonsRow : OpenClaim := { program := "ytfkmbnlpdolemaa", sum := "5d4967532bc08b50f506e4578ddcc9f28c76252a46055898f3338faabe341ad7", func := "yardarm/yardarmlaw01.DigitReckons", spec := "digitReckons", inPlace := ["math/bits.Add64"], unfollowed := true, recurses := true, apart := false }
def DigitReckonsSaid : Prop := digitReckonsRow.holds Try.pinned (OpenSpec.ofChange digitReckonsSpec)

/-- ITS FALSE NEIGHBOUR: 'it returns false'. Refute it at one input. -/
def digitReckonsWrong : ChangeSpec := { name := "digitReckons", fn := fun _ => fun
  | [d] => { results := [.lit (.bool false)], args := [d] }
  | _ => none }
def DigitReckonsWrongFalsely : Prop := digitReckonsRow.holds Try.pinned (OpenSpec.ofChange digitReckonsWrong)

/-- 'yardarmlaw01.DigitSum': WHATEVER THE INPUT: true; the input reads as it did. -/
def digitSumSpec : ChangeSpec := { name := "digitSum", fn := fun _ => fun
  | [d1, d2] => { results := [.lit (.bool true)], args := [d1, d2] }
  | _ => none }
def digitSumRow : OpenClaim := { program := "ytfkmbnlpdolemaa", sum := "5d4967532bc08b50f506e4578ddcc9f28c76252a46055898f3338faabe341ad7", func := "yardarm/yardarmlaw01.DigitSum", spec := "digitSum", inPlace := ["math/bits.Add64"], unfollowed := true, recurses := true, apart := false }
def DigitSumSaid : Prop := digitSumRow.holds Try.pinned (OpenSpec.ofChange digitSumSpec)

/-- ITS FALSE NEIGHBOUR: 'it returns false'. Refute it at one input. -/
def digitSumWrong : ChangeSpec := { name := "digitSum", fn := fun _ => fun
  | [d1, d2] => { results := [.lit (.bool false)], args := [d1, d2] }
  | _ => none }
def DigitSumWrongFalsely : Prop := digitSumRow.holds Try.pinned (OpenSpec.ofChange digitSumWrong)

/- THE SECOND FORM. 'bulk': how many values and letters a reading holds, each counted each time it is reached (what is shared counts as often as it is met; a slice's spare places count too). A statement '..UptoSaid' is the law's where the arguments, and the package variables that the reading takes, are together of bulk at most 1048576: NARROWER than '..Said'. Prove '..Said' where nothing that the law and all that it calls make is longer than what came in: it says more and counts as full. Else prove '..UptoSaid'. A law counts once. -/
mutual
def uptoBulk {H : Type} : DataW H → Nat
  | .lit (.string bytes) => bytes.length + 1
  | .lit _ => 1
  | .nil => 1
  | .ptr d => uptoBulk d + 1
  | .slice elems spare => uptoBulkAll elems + uptoBulkAll spare + 1
  | .agg parts => uptoBulkAll parts + 1
  | .iface _ d => uptoBulk d + 1
  | .map entries => uptoBulkEntries entries + 1
  | .held _ => 1
def uptoBulkAll {H : Type} : List (DataW H) → Nat
  | [] => 0
  | d :: r => uptoBulk d + uptoBulkAll r
def uptoBulkEntries {H : Type} : List (Lit × DataW H) → Nat
  | [] => 0
  | x :: r => uptoBulkEntry x + uptoBulkEntries r
def uptoBulkEntry {H : Type} : Lit × DataW H → Nat
  | (.string bytes, d) => bytes.length + uptoBulk d + 1
  | (_, d) => uptoBulk d + 1
 end
def uptoSmall : (H : Type) → List (DataW H) → Bool := fun _ ds => decide (uptoBulkAll ds ≤ 1048576)
def OpenSpec.upto (s : _root_.Go.ChangeSpec) : _root_.Go.OpenSpec := { _root_.Go.OpenSpec.ofChange s with cond := some uptoSmall }

/-- 'yardarmlaw01.DigitReads', WHERE WHAT IT READS IS OF BULK AT MOST 1048576: true; the input reads as it did. -/
def digitReadsUptoRow : OpenClaim := { program := "ytfkmbnlpdolemaa", sum := "5d4967532bc08b50f506e4578ddcc9f28c76252a46055898f3338faabe341ad7", func := "yardarm/yardarmlaw01.DigitReads", spec := "digitReads", inPlace := ["math/bits.Add64"], recurses := true, apart := false, narrowed := true }
def DigitReadsUptoSaid : Prop := digitReadsUptoRow.holds Try.pinned (OpenSpec.upto digitReadsSpec)

/-- 'yardarmlaw01.DigitBack', WHERE WHAT IT READS IS OF BULK AT MOST 1048576: true; the input reads as it did. -/
def digitBackUptoRow : OpenClaim := { program := "ytfkmbnlpdolemaa", sum := "5d4967532bc08b50f506e4578ddcc9f28c76252a46055898f3338faabe341ad7", func := "yardarm/yardarmlaw01.DigitBack", spec := "digitBack", inPlace := ["math/bits.Add64"], apart := false, narrowed := true }
def DigitBackUptoSaid : Prop := digitBackUptoRow.holds Try.pinned (OpenSpec.upto digitBackSpec)

/-- 'yardarmlaw01.DigitOrder', WHERE WHAT IT READS IS OF BULK AT MOST 1048576: true; the input reads as it did. -/
def digitOrderUptoRow : OpenClaim := { program := "ytfkmbnlpdolemaa", sum := "5d4967532bc08b50f506e4578ddcc9f28c76252a46055898f3338faabe341ad7", func := "yardarm/yardarmlaw01.DigitOrder", spec := "digitOrder", inPlace := ["math/bits.Add64"], apart := false, narrowed := true }
def DigitOrderUptoSaid : Prop := digitOrderUptoRow.holds Try.pinned (OpenSpec.upto digitOrderSpec)

/-- 'yardarmlaw01.DigitReckons', WHERE WHAT IT READS IS OF BULK AT MOST 1048576: true; the input reads as it did. -/
def digitReckonsUptoRow : OpenClaim := { program := "ytfkmbnlpdolemaa", sum := "5d4967532bc08b50f506e4578ddcc9f28c76252a46055898f3338faabe341ad7", func := "yardarm/yardarmlaw01.DigitReckons", spec := "digitReckons", inPlace := ["math/bits.Add64"], unfollowed := true, recurses := true, apart := false, narrowed := true }
def DigitReckonsUptoSaid : Prop := digitReckonsUptoRow.holds Try.pinned (OpenSpec.upto digitReckonsSpec)

/-- 'yardarmlaw01.DigitSum', WHERE WHAT IT READS IS OF BULK AT MOST 1048576: true; the input reads as it did. -/
def digitSumUptoRow : OpenClaim := { program := "ytfkmbnlpdolemaa", sum := "5d4967532bc08b50f506e4578ddcc9f28c76252a46055898f3338faabe341ad7", func := "yardarm/yardarmlaw01.DigitSum", spec := "digitSum", inPlace := ["math/bits.Add64"], unfollowed := true, recurses := true, apart := false, narrowed := true }
def DigitSumUptoSaid : Prop := digitSumUptoRow.holds Try.pinned (OpenSpec.upto digitSumSpec)

end Rows
end Go.Proofs.Ytfkmbnlpdolemaa
