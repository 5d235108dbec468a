/- What filled, Row and Other of the document's answer to chapter 10 do: rows that are drawn. -/
import Derived.Test.YtifemfnjoobiiaaRowG
namespace Go.Proofs.Ytifemfnjoobiiaa.Run
open Go Go.RowKit
set_option linter.unusedVariables false
set_option linter.unusedSimpArgs false
theorem Mine.new {α : Type} [E : Enc α] {ty : TypeId} {M M' : Mem} {v : Value} {L : List α} (h : Mine ty M M' v L) (h0 : L ≠ []) : New ty M M' v L := by
 rcases h with h | ⟨h, _⟩
 ·exact h
 ·exact absurd h h0
section
variable {M : Mem} {Q : Value → Mem → Prop}
end
end Go.Proofs.Ytifemfnjoobiiaa.Run
