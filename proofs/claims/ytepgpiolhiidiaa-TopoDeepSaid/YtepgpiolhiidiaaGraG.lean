/- The document's Out, In, Kinds, Reverse, Starts, With, Of. -/
import Derived.Test.YtepgpiolhiidiaaGraF
namespace Go.Proofs.Ytepgpiolhiidiaa
open Go.RowKit

end Go.Proofs.Ytepgpiolhiidiaa
