/- The document's own words on numbers and texts: yardarmref01's Text, Head, above, Looks, Read. -/
import Derived.Test.YtlianjnmfgakkaaDoorDigB2
namespace Go.Proofs.YtlianjnmfgakkaaDoor
open Go.RowKit Go.Lib

theorem drop_get {L : List Int} {k e : Nat} (h : k ≤ e) : (L.drop k)[e - k]? = L[e]? := by
  rw [List.getElem?_drop]
  congr 1
  omega
end Go.Proofs.YtlianjnmfgakkaaDoor
