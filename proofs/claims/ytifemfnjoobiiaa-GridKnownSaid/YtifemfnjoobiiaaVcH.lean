/- What is to be shown of each function, loop and rest of a function, so that a run of it ends, and ends so: each is what the calculus of this session's own says, by the kernel. Written by this session's own program. -/
import Derived.Test.YtifemfnjoobiiaaRange
import Derived.Test.YtifemfnjoobiiaaWorks
namespace Go.Proofs.Ytifemfnjoobiiaa.Run
open Go Go.RowKit
set_option linter.unusedVariables false
set_option maxRecDepth 100000
theorem slices_Clone_api_Cell_api_Cell_wp {a0 : Option Addr} {a0n a0c : Nat}  {M : Mem} {Q : Value → Mem → Prop} (hM : M.base ≤ M.size) (h : (∃ v1, binV .eql 4 [] (.slice a0 a0n a0c) (.slice none 0 0) = some v1 ∧ (wpIf v1 (Q (.slice none 0 0) M) (∃ v2 M3, opSem (.lit 42 0 [] []) [] M = some (v2, M3) ∧ (∃ v4 M5, opSem (.append 42 28 14 false (.const v2) (.const (.slice a0 a0n a0c))) [] M3 = some (v4, M5) ∧ (Q v4 M5))))))  : W funs known (.func (.func n_slices_Clone_api_Cell_api_Cell) #[] #[]) [(.slice a0 a0n a0c)] M Q := by
  exact W_funB (m := mf49) (c := mf49_b) hM (by kernel_rfl) (by kernel_rfl) rfl (by kernel_rfl) h
end Go.Proofs.Ytifemfnjoobiiaa.Run
