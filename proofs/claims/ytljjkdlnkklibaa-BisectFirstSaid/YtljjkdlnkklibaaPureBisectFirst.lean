/- The law BisectFirst needs nothing more of plain functions than its walk has shown, for all arguments and with no condition. -/
import Derived.Test.YtljjkdlnkklibaaPAx2
namespace Go.Proofs.Ytljjkdlnkklibaa.Pure
open Go Go.RowKit Go.Proofs.Ytljjkdlnkklibaa.PA
theorem BisectFirst : refuterlaw35_BisectFirst.Pure := trivial
end Go.Proofs.Ytljjkdlnkklibaa.Pure
