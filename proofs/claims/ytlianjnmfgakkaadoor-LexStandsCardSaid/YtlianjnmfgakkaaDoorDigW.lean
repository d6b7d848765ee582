/- The stage wakes: yardarmlaw01.wakes is true; yardarmlaw01.cut. -/
import Derived.Test.YtlianjnmfgakkaaDoorDigE
namespace Go.Proofs.YtlianjnmfgakkaaDoor
open Go.RowKit Go.Lib

theorem text120 : bs (txt (-120)) = ⟨#[45, 49, 50, 48]⟩ := by
  have : txt (-120) = [45, 49, 50, 48] := by
    unfold txt
    rw [if_pos (by decide)]
    rw [show (-120 : Int).natAbs = 120 from rfl, dig, if_neg (by decide), dig, if_neg (by decide), dig, if_pos (by decide)]
    rfl
  rw [this]
  rfl
end Go.Proofs.YtlianjnmfgakkaaDoor
