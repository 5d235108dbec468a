
/- What the functions of the document's answer to chapter 10 do, by which rows are drawn: New, Attr, Cell, labels, filled, Row, Other. -/
import Derived.Test.YtifemfnjoobiiaaRowF
namespace Go.Proofs.Ytifemfnjoobiiaa.Run
open Go Go.RowKit
set_option linter.unusedVariables false
set_option linter.unusedSimpArgs false
section
variable {M : Mem} {Q : Value → Mem → Prop}
end
end Go.Proofs.Ytifemfnjoobiiaa.Run
