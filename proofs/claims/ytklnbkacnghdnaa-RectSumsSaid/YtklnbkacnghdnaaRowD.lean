
/- What Level, Whole and Mark of chapter 10 do, and Same of the document's answer. -/
import Derived.Test.YtklnbkacnghdnaaRowC
import Derived.Test.YtklnbkacnghdnaaVcB
namespace Go.Proofs.Ytklnbkacnghdnaa.Run
open Go Go.RowKit
set_option linter.unusedVariables false
set_option linter.unusedSimpArgs false
theorem eqCells_int {ss : List Nat} {k : IntKind} {a b : Int} {xs ys : List Value} {r : Bool} (h : eqCells ss xs ys = some r) : eqCells (0 :: ss) (.int k a :: xs) (.int k b :: ys) = some (decide (a = b) && r) := by
  simp only [eqCells, cellEq, if_true]
  by_cases hc : a = b
  · subst hc; simp [h]
  · simp [hc]
theorem eqCells_nil : eqCells [] [] [] = some true := rfl
section
variable {M : Mem} {Q : Value → Mem → Prop}
end
end Go.Proofs.Ytklnbkacnghdnaa.Run
