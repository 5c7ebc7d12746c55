/- The law WireSizes needs nothing more of plain functions than its walk has shown, for all arguments and with no condition. -/
import Derived.Test.YtleomgkogbenaaaPAx1
namespace Go.Proofs.Ytleomgkogbenaaa.Pure
open Go Go.RowKit Go.Proofs.Ytleomgkogbenaaa.PA
theorem WireSizes : refuterlaw02_WireSizes.Pure := trivial
end Go.Proofs.Ytleomgkogbenaaa.Pure
