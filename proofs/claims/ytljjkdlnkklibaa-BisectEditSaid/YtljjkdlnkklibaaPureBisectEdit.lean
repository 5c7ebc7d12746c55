/- The law BisectEdit needs nothing more of plain functions than its walk has shown, for all arguments and with no condition. -/
import Derived.Test.YtljjkdlnkklibaaPAx3
namespace Go.Proofs.Ytljjkdlnkklibaa.Pure
open Go Go.RowKit Go.Proofs.Ytljjkdlnkklibaa.PA
theorem BisectEdit : refuterlaw35_BisectEdit.Pure := trivial
end Go.Proofs.Ytljjkdlnkklibaa.Pure
