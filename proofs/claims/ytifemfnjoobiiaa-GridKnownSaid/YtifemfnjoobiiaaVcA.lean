/- What is to be shown of each function, loop and rest of a function, so that a run of it ends, and ends so: each is what the calculus of this session's own says, by the kernel. Written by this session's own program. -/
import Derived.Test.YtifemfnjoobiiaaSpec
import Derived.Test.YtifemfnjoobiiaaWorks
namespace Go.Proofs.Ytifemfnjoobiiaa.Run
open Go Go.RowKit
set_option linter.unusedVariables false
set_option maxRecDepth 100000
end Go.Proofs.Ytifemfnjoobiiaa.Run
