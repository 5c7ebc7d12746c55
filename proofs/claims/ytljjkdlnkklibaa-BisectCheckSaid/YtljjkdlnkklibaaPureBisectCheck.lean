/- The law BisectCheck needs nothing more of plain functions than its walk has shown, for all arguments and with no condition. -/
import Derived.Test.YtljjkdlnkklibaaPAx3
namespace Go.Proofs.Ytljjkdlnkklibaa.Pure
open Go Go.RowKit Go.Proofs.Ytljjkdlnkklibaa.PA
theorem BisectCheck : refuterlaw35_BisectCheck.Pure := trivial
end Go.Proofs.Ytljjkdlnkklibaa.Pure
