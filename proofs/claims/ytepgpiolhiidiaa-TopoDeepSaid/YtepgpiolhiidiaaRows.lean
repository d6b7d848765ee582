/-
  No cell of these rows narrows 'for every input' (looked for: loops, veiled, ifaces, maps, wideKeys, modest, calm, conditions, laid).
  DERIVED. THE GIVEN ROWS OF THIS SEAT. 5 by the template 'for every input the law returns true; each argument reads behind the call as it read before'; 0 by the template 'total and deterministic' (their statements: YtepgpiolhiidiaaTotals.lean).
  GIVEN WITH THE SEED: the statements are not yours to turn. If you find one false, say at which input.
  Laid BY PROGRAM, IN A SANDBOX (cutbox-rows.mjs): the forced cells as the released guide's own fill.sh prints them over the translation 6cb7dfff6acc5dad… (all of the seat's roots in one cut). By AI agents, Wed Nov 11 2026. No macro, syntax, notation, axiom, sorry.
-/
import Derived.Test.YtepgpiolhiidiaaChecked
import GoSem.Claim
import GoSem.ClaimJoined
import GoSem.ClaimMapViews
import Derived.JoinedTies
import Derived.KernelRfl
namespace Go.Proofs.Ytepgpiolhiidiaa
/- THE CELL 'sum', in the pinned program and in every row, IS THE sha256 OF THE DUMP (.gsa) THAT YtepgpiolhiidiaaProg.lean LOADS. Nothing in Lean hashes anything: it is a label: what it is worth is what the hold of that sum in a sandbox is worth. -/
noncomputable def Try.pinned : Pinned := { name := "ytepgpiolhiidiaa", sum := "6cb7dfff6acc5dad060d9cd82b4ab86b3e9a1aa3dc3c2fc31572e9bb7d6f11db", checked := Try.checked }
namespace Rows
def none {H : Type} : Left H := { results := [], args := [] }

/-- 'yardarmlaw07.TopoRight': WHATEVER THE INPUT: true; the input reads as it did. -/
def topoRightSpec : ChangeSpec := { name := "topoRight", fn := fun _ => fun
  | [d1, d2] => { results := [.lit (.bool true)], args := [d1, d2] }
  | _ => none }
def topoRightRow : OpenClaim := { program := "ytepgpiolhiidiaa", sum := "6cb7dfff6acc5dad060d9cd82b4ab86b3e9a1aa3dc3c2fc31572e9bb7d6f11db", func := "yardarm/yardarmlaw07.TopoRight", spec := "topoRight", unfollowed := true, recurses := true, apart := false }
def TopoRightSaid : Prop := topoRightRow.holds Try.pinned (OpenSpec.ofChange topoRightSpec)

/-- ITS FALSE NEIGHBOUR: 'it returns false'. Refute it at one input. -/
def topoRightWrong : ChangeSpec := { name := "topoRight", fn := fun _ => fun
  | [d1, d2] => { results := [.lit (.bool false)], args := [d1, d2] }
  | _ => none }
def TopoRightWrongFalsely : Prop := topoRightRow.holds Try.pinned (OpenSpec.ofChange topoRightWrong)

/-- 'yardarmlaw07.TopoLeast': WHATEVER THE INPUT: true; the input reads as it did. -/
def topoLeastSpec : ChangeSpec := { name := "topoLeast", fn := fun _ => fun
  | [d1, d2] => { results := [.lit (.bool true)], args := [d1, d2] }
  | _ => none }
def topoLeastRow : OpenClaim := { program := "ytepgpiolhiidiaa", sum := "6cb7dfff6acc5dad060d9cd82b4ab86b3e9a1aa3dc3c2fc31572e9bb7d6f11db", func := "yardarm/yardarmlaw07.TopoLeast", spec := "topoLeast", unfollowed := true, recurses := true, apart := false }
def TopoLeastSaid : Prop := topoLeastRow.holds Try.pinned (OpenSpec.ofChange topoLeastSpec)

/-- ITS FALSE NEIGHBOUR: 'it returns false'. Refute it at one input. -/
def topoLeastWrong : ChangeSpec := { name := "topoLeast", fn := fun _ => fun
  | [d1, d2] => { results := [.lit (.bool false)], args := [d1, d2] }
  | _ => none }
def TopoLeastWrongFalsely : Prop := topoLeastRow.holds Try.pinned (OpenSpec.ofChange topoLeastWrong)

/-- 'yardarmlaw07.TopoOrders': WHATEVER THE INPUT: true; the input reads as it did. -/
def topoOrdersSpec : ChangeSpec := { name := "topoOrders", fn := fun _ => fun
  | [d] => { results := [.lit (.bool true)], args := [d] }
  | _ => none }
def topoOrdersRow : OpenClaim := { program := "ytepgpiolhiidiaa", sum := "6cb7dfff6acc5dad060d9cd82b4ab86b3e9a1aa3dc3c2fc31572e9bb7d6f11db", func := "yardarm/yardarmlaw07.TopoOrders", spec := "topoOrders", unfollowed := true, recurses := true, apart := false }
def TopoOrdersSaid : Prop := topoOrdersRow.holds Try.pinned (OpenSpec.ofChange topoOrdersSpec)

/-- ITS FALSE NEIGHBOUR: 'it returns false'. Refute it at one input. -/
def topoOrdersWrong : ChangeSpec := { name := "topoOrders", fn := fun _ => fun
  | [d] => { results := [.lit (.bool false)], args := [d] }
  | _ => none }
def TopoOrdersWrongFalsely : Prop := topoOrdersRow.holds Try.pinned (OpenSpec.ofChange topoOrdersWrong)

/-- 'yardarmlaw07.TopoLeft': WHATEVER THE INPUT: true; the input reads as it did. -/
def topoLeftSpec : ChangeSpec := { name := "topoLeft", fn := fun _ => fun
  | [d] => { results := [.lit (.bool true)], args := [d] }
  | _ => none }
def topoLeftRow : OpenClaim := { program := "ytepgpiolhiidiaa", sum := "6cb7dfff6acc5dad060d9cd82b4ab86b3e9a1aa3dc3c2fc31572e9bb7d6f11db", func := "yardarm/yardarmlaw07.TopoLeft", spec := "topoLeft", unfollowed := true, recurses := true, apart := false }
def TopoLeftSaid : Prop := topoLeftRow.holds Try.pinned (OpenSpec.ofChange topoLeftSpec)

/-- ITS FALSE NEIGHBOUR: 'it returns false'. Refute it at one input. -/
def topoLeftWrong : ChangeSpec := { name := "topoLeft", fn := fun _ => fun
  | [d] => { results := [.lit (.bool false)], args := [d] }
  | _ => none }
def TopoLeftWrongFalsely : Prop := topoLeftRow.holds Try.pinned (OpenSpec.ofChange topoLeftWrong)

/-- 'yardarmlaw07.TopoDeep': WHATEVER THE INPUT: true; the input reads as it did. -/
def topoDeepSpec : ChangeSpec := { name := "topoDeep", fn := fun _ => fun
  | [d] => { results := [.lit (.bool true)], args := [d] }
  | _ => none }
def topoDeepRow : OpenClaim := { program := "ytepgpiolhiidiaa", sum := "6cb7dfff6acc5dad060d9cd82b4ab86b3e9a1aa3dc3c2fc31572e9bb7d6f11db", func := "yardarm/yardarmlaw07.TopoDeep", spec := "topoDeep", unfollowed := true, recurses := true, apart := false }
def TopoDeepSaid : Prop := topoDeepRow.holds Try.pinned (OpenSpec.ofChange topoDeepSpec)

/-- ITS FALSE NEIGHBOUR: 'it returns false'. Refute it at one input. -/
def topoDeepWrong : ChangeSpec := { name := "topoDeep", fn := fun _ => fun
  | [d] => { results := [.lit (.bool false)], args := [d] }
  | _ => none }
def TopoDeepWrongFalsely : Prop := topoDeepRow.holds Try.pinned (OpenSpec.ofChange topoDeepWrong)

/- THE SECOND FORM. 'bulk': how many values and letters a reading holds, each counted each time it is reached (what is shared counts as often as it is met; a slice's spare places count too). A statement '..UptoSaid' is the law's where the arguments, and the package variables that the reading takes, are together of bulk at most 1048576: NARROWER than '..Said'. Prove '..Said' where nothing that the law and all that it calls make is longer than what came in: it says more and counts as full. Else prove '..UptoSaid'. A law counts once. -/
mutual
def uptoBulk {H : Type} : DataW H → Nat
  | .lit (.string bytes) => bytes.length + 1
  | .lit _ => 1
  | .nil => 1
  | .ptr d => uptoBulk d + 1
  | .slice elems spare => uptoBulkAll elems + uptoBulkAll spare + 1
  | .agg parts => uptoBulkAll parts + 1
  | .iface _ d => uptoBulk d + 1
  | .map entries => uptoBulkEntries entries + 1
  | .held _ => 1
def uptoBulkAll {H : Type} : List (DataW H) → Nat
  | [] => 0
  | d :: r => uptoBulk d + uptoBulkAll r
def uptoBulkEntries {H : Type} : List (Lit × DataW H) → Nat
  | [] => 0
  | x :: r => uptoBulkEntry x + uptoBulkEntries r
def uptoBulkEntry {H : Type} : Lit × DataW H → Nat
  | (.string bytes, d) => bytes.length + uptoBulk d + 1
  | (_, d) => uptoBulk d + 1
 end
def uptoSmall : (H : Type) → List (DataW H) → Bool := fun _ ds => decide (uptoBulkAll ds ≤ 1048576)
def OpenSpec.upto (s : _root_.Go.ChangeSpec) : _root_.Go.OpenSpec := { _root_.Go.OpenSpec.ofChange s with cond := some uptoSmall }

/-- 'yardarmlaw07.TopoRight', WHERE WHAT IT READS IS OF BULK AT MOST 1048576: true; the input reads as it did. -/
def topoRightUptoRow : OpenClaim := { program := "ytepgpiolhiidiaa", sum := "6cb7dfff6acc5dad060d9cd82b4ab86b3e9a1aa3dc3c2fc31572e9bb7d6f11db", func := "yardarm/yardarmlaw07.TopoRight", spec := "topoRight", unfollowed := true, recurses := true, apart := false, narrowed := true }
def TopoRightUptoSaid : Prop := topoRightUptoRow.holds Try.pinned (OpenSpec.upto topoRightSpec)

/-- 'yardarmlaw07.TopoLeast', WHERE WHAT IT READS IS OF BULK AT MOST 1048576: true; the input reads as it did. -/
def topoLeastUptoRow : OpenClaim := { program := "ytepgpiolhiidiaa", sum := "6cb7dfff6acc5dad060d9cd82b4ab86b3e9a1aa3dc3c2fc31572e9bb7d6f11db", func := "yardarm/yardarmlaw07.TopoLeast", spec := "topoLeast", unfollowed := true, recurses := true, apart := false, narrowed := true }
def TopoLeastUptoSaid : Prop := topoLeastUptoRow.holds Try.pinned (OpenSpec.upto topoLeastSpec)

/-- 'yardarmlaw07.TopoOrders', WHERE WHAT IT READS IS OF BULK AT MOST 1048576: true; the input reads as it did. -/
def topoOrdersUptoRow : OpenClaim := { program := "ytepgpiolhiidiaa", sum := "6cb7dfff6acc5dad060d9cd82b4ab86b3e9a1aa3dc3c2fc31572e9bb7d6f11db", func := "yardarm/yardarmlaw07.TopoOrders", spec := "topoOrders", unfollowed := true, recurses := true, apart := false, narrowed := true }
def TopoOrdersUptoSaid : Prop := topoOrdersUptoRow.holds Try.pinned (OpenSpec.upto topoOrdersSpec)

/-- 'yardarmlaw07.TopoLeft', WHERE WHAT IT READS IS OF BULK AT MOST 1048576: true; the input reads as it did. -/
def topoLeftUptoRow : OpenClaim := { program := "ytepgpiolhiidiaa", sum := "6cb7dfff6acc5dad060d9cd82b4ab86b3e9a1aa3dc3c2fc31572e9bb7d6f11db", func := "yardarm/yardarmlaw07.TopoLeft", spec := "topoLeft", unfollowed := true, recurses := true, apart := false, narrowed := true }
def TopoLeftUptoSaid : Prop := topoLeftUptoRow.holds Try.pinned (OpenSpec.upto topoLeftSpec)

/-- 'yardarmlaw07.TopoDeep', WHERE WHAT IT READS IS OF BULK AT MOST 1048576: true; the input reads as it did. -/
def topoDeepUptoRow : OpenClaim := { program := "ytepgpiolhiidiaa", sum := "6cb7dfff6acc5dad060d9cd82b4ab86b3e9a1aa3dc3c2fc31572e9bb7d6f11db", func := "yardarm/yardarmlaw07.TopoDeep", spec := "topoDeep", unfollowed := true, recurses := true, apart := false, narrowed := true }
def TopoDeepUptoSaid : Prop := topoDeepUptoRow.holds Try.pinned (OpenSpec.upto topoDeepSpec)

end Rows
end Go.Proofs.Ytepgpiolhiidiaa
