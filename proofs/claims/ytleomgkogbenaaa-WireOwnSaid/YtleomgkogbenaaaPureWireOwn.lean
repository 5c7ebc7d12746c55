/- The law WireOwn needs nothing more of plain functions than its walk has shown, for all arguments and with no condition. -/
import Derived.Test.YtleomgkogbenaaaPAx5
namespace Go.Proofs.Ytleomgkogbenaaa.Pure
open Go Go.RowKit Go.Proofs.Ytleomgkogbenaaa.PA
theorem WireOwn : refuterlaw02_WireOwn.Pure := trivial
end Go.Proofs.Ytleomgkogbenaaa.Pure
