/- The law WireReads needs nothing more of plain functions than its walk has shown, for all arguments and with no condition. -/
import Derived.Test.YtleomgkogbenaaaPAx4
namespace Go.Proofs.Ytleomgkogbenaaa.Pure
open Go Go.RowKit Go.Proofs.Ytleomgkogbenaaa.PA
theorem WireReads : refuterlaw02_WireReads.Pure := trivial
end Go.Proofs.Ytleomgkogbenaaa.Pure
