/- DigitBack: Read of Text is the number, Text of Read the text. -/
import Derived.Test.YtlianjnmfgakkaaDoorDigP
import Derived.Test.YtlianjnmfgakkaaDoorDigO
namespace Go.Proofs.YtlianjnmfgakkaaDoor
open Go.RowKit Go.Lib

def cutS (s : ByteArray) : ByteArray := s.extract 0 (min s.size 300)
theorem cutS_size (s : ByteArray) : (cutS s).size ≤ 300 := by
  unfold cutS
  rw [ByteArray.size_extract]
  omega
theorem prefix_inner (a p : ByteArray) (h1 : p.size ≤ a.size) (h2 : a.extract 0 p.size = p) (w : World) :
    Calls Tryd.prog 49 #[.string a, .string p] w fun e w' => e = .returned (.bool true) ∧ w' = w := by
  go_enter Tryd.func49, Tryd.ntmps49
  go_wp2
  go_ret
  exact ⟨rfl, rfl⟩
theorem prefix_any (a p : ByteArray) (h1 : p.size ≤ a.size) (h2 : a.extract 0 p.size = p) (w : World) :
    Calls Tryd.prog 22 #[.string a, .string p] w fun e w' => e = .returned (.bool true) ∧ w' = w := by
  replace h1 := hide h1
  replace h2 := hide h2
  go_enter Tryd.func22, Tryd.ntmps22
  go_wp2_with fail
  refine (prefix_inner a p h1.out h2.out _).mono ?_
  rintro e w1 ⟨rfl, rfl⟩
  go_wp2
  go_ret
  exact ⟨rfl, rfl⟩

end Go.Proofs.YtlianjnmfgakkaaDoor
