/- Written by a program of this session (pw.py, over the kit's printer): contracts, with their walks, of the Go functions that a law reaches; a text named ..Law.. proves the given statement of that law, with no condition of its own. -/
import Derived.Test.YtjekglbodhlfcaaPAx0
import Derived.Test.YtjekglbodhlfcaaPAx1
import Derived.Test.YtjekglbodhlfcaaPAx2
import Derived.Test.YtjekglbodhlfcaaPAx3
import Derived.Test.YtjekglbodhlfcaaPAx4
namespace Go.Proofs.Ytjekglbodhlfcaa.PA
open Go.Proofs.Ytjekglbodhlfcaa.HashPlain
open Go.Proofs.Ytjekglbodhlfcaa.Pw
open Go.RowKit Go.Proofs.YtjekglbodhlfcaaW.PrintWords Go.Proofs.YtjekglbodhlfcaaW.PrintLast Go.Proofs.YtjekglbodhlfcaaW.PrintMore
attribute [local go_sem] max2_int min2_int max_two min_two max_three min_three max_four min_four   -- for this text's walks alone
set_option linter.unusedVariables false
set_option linter.unusedSimpArgs false

end Go.Proofs.Ytjekglbodhlfcaa.PA
