/- The law WireSizes needs nothing more of plain functions than its walk has shown. -/
import Derived.Test.YtleomgkogbenaaaPSx
namespace Go.Proofs.Ytleomgkogbenaaa.Pure
open Go Go.RowKit Go.Proofs.Ytleomgkogbenaaa.PS
theorem WireSizes : refuterlaw02_WireSizes.Pure := trivial
end Go.Proofs.Ytleomgkogbenaaa.Pure
