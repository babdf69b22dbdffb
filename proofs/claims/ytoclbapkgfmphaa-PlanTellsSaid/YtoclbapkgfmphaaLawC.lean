/- The laws on runs: walks of RunsTells, RunsBumps, RunsTwo. -/
import Derived.Test.YtoclbapkgfmphaaLawB
set_option linter.unusedVariables false
namespace Go.Proofs.Ytoclbapkgfmphaa
open Go.RowKit

end Go.Proofs.Ytoclbapkgfmphaa
