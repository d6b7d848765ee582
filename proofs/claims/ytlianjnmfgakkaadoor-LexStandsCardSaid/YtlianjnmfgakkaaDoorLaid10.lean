/- The library's two tables as their texts lay them: what the condition gives the walks, and that the door's own heap meets it. -/
import Derived.Test.YtlianjnmfgakkaaDoorRows
import Derived.Test.YtlianjnmfgakkaaDoorTie
import Derived.Test.YtlianjnmfgakkaaDoorLexA
import Derived.Test.YtlianjnmfgakkaaDoorShelf02
import Derived.Test.YtlianjnmfgakkaaDoorOpenG
import Derived.Lib.LaidU8
import Derived.LaidMore
import Derived.Lay
import Derived.Stop.Joined
namespace Go.Proofs.YtlianjnmfgakkaaDoor
open Go.ChangeShapes Go.WideShapes Go.ChangeAt Go.RowKit
def laidL : List (String × DataW Unit) := [("unicode/utf8.acceptRanges", Rows.laid_unicode_utf8_acceptRanges), ("unicode/utf8.first", Rows.laid_unicode_utf8_first)]
theorem door_met (os : Os) (args : Array Value) : laidMetH Tryd.prog laidL ((World.laidAll Tryd.prog os laidL).forCall (fun _ _ => 0) ⟨#[], args, []⟩).memory := by
  rw [MakeChecks.laidMetH_plain _ _ _ (by kernel_rfl)]
  exact laidMet_laidAll _ (by kernel_rfl) (by kernel_rfl)
theorem u8x : U8Extra Tryd.prog Tryd.lays260_ren where
  n3 := by kernel_rfl
  n4 := by kernel_rfl
  y3 := by kernel_rfl
  y4 := by kernel_rfl
  c5 := by kernel_rfl
  c119 := by kernel_rfl
  c138 := by kernel_rfl
theorem of_laid {W : World} (h : laidMetH Tryd.prog laidL W) : LaidU W := by
  rw [MakeChecks.laidMetH_plain _ _ _ (by kernel_rfl)] at h
  have h3 : Lib.VarReads Tryd.prog W "unicode/utf8.first" Lib.firstData := by
    have e : Rows.laid_unicode_utf8_first = Lib.firstData := by kernel_rfl
    rw [← e]
    exact Lib.laidMet.reads h (List.mem_cons_of_mem _ (List.mem_cons_self ..))
  have h4 : Lib.VarReads Tryd.prog W "unicode/utf8.acceptRanges" Lib.acceptData := by
    have e : Rows.laid_unicode_utf8_acceptRanges = Lib.acceptData := by kernel_rfl
    rw [← e]
    exact Lib.laidMet.reads h (List.mem_cons_self ..)
  have T : Lib.Utf8Tabs 1 2 W := utf8Tabs_of_reads Tryd.lays260 u8x h3 h4
  exact ⟨T, World.block_lt_of_cell? W _ (T.2 0 (by omega)).1⟩
end Go.Proofs.YtlianjnmfgakkaaDoor
