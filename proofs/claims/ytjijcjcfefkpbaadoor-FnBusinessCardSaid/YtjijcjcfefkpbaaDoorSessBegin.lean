/- Contracts on sessions: BeginRecess, the reference's and the program's. No conditions beyond sizes. -/
import Derived.Test.YtjijcjcfefkpbaaDoorSessR
namespace Go.Proofs.YtjijcjcfefkpbaaDoor
open Go.RowKit
set_option linter.unusedVariables false
set_option linter.unusedSimpArgs false

end Go.Proofs.YtjijcjcfefkpbaaDoor
