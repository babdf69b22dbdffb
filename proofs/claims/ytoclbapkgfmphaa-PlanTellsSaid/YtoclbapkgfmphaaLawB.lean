/- The laws on runs: runsBegun is true. -/
import Derived.Test.YtoclbapkgfmphaaLawA
set_option linter.unusedVariables false
namespace Go.Proofs.Ytoclbapkgfmphaa
open Go.RowKit

end Go.Proofs.Ytoclbapkgfmphaa
