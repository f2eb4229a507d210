/- Both openings and walks, together. -/
import Derived.Test.YtcadamdlfelocaaL2
import Derived.Test.YtcadamdlfelocaaL3
namespace Go.Proofs.Ytcadamdlfelocaa
end Go.Proofs.Ytcadamdlfelocaa
