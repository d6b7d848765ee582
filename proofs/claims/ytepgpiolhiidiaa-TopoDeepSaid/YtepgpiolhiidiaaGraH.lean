/- The document's With, Of, Reverse, Starts. -/
import Derived.Test.YtepgpiolhiidiaaGraG
namespace Go.Proofs.Ytepgpiolhiidiaa
open Go.RowKit

end Go.Proofs.Ytepgpiolhiidiaa
