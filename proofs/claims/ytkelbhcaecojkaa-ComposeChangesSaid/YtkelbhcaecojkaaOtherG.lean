
/- Grids with other High cells: the contract of the kit's Draft.Other. -/
import Derived.Test.YtkelbhcaecojkaaGridB
import Derived.Test.YtkelbhcaecojkaaStep
namespace Go.Proofs.Ytkelbhcaecojkaa.Run
open Go Go.RowKit
set_option linter.unusedVariables false
set_option linter.unusedSimpArgs false

theorem step_remT {P : Value → Prop} {k : IntKind} {x y : Int} (hy : y ≠ 0) (p : P (.int k (x.tmod y))) : ∃ v, binV .rem 0 [] (.int k x) (.int k y) = some v ∧ P v :=
  ⟨.int k (x.tmod y), by simp only [binV, isShift, Bool.false_eq_true, if_false, if_true, intOp, if_neg hy], p⟩
def otherD (U : Lns) (i : Nat) : List Dr := match U[i % U.length]? with | some p => p.2 | none => []
def othersG (T U : Lns) : Gd := T.mapIdx fun i p => rowF p.1.c p.2 (otherD U i)
def otherG (c : Int) (T U : Lns) : Gd := othersG (linesF c T) U
theorem others_get (T U : Lns) (i : Nat) : (othersG T U)[i]? = (T[i]?).map fun p => rowF p.1.c p.2 (otherD U i) := by unfold othersG; rw [List.getElem?_mapIdx]
theorem others_len (T U : Lns) : (othersG T U).length = T.length := by unfold othersG; simp
theorem others_take (T U : Lns) {i : Nat} {p : Ln × List Dr} (h : T[i]? = some p) : (othersG T U).take (i + 1) = (othersG T U).take i ++ [rowF p.1.c p.2 (otherD U i)] := by
  have hg := others_get T U i
  rw [h] at hg
  obtain ⟨h1, h2⟩ := List.getElem?_eq_some_iff.1 hg
  rw [List.take_succ_eq_append_getElem h1, h2]
theorem otherD_ok {M : Mem} {U : Lns} (h : LnsOK M U) (i : Nat) : ∀ d ∈ otherD U i, d.ok := by
  unfold otherD
  split
  · rename_i p hp; exact (h p (List.mem_of_getElem? hp)).2
  · simp

section
variable {M : Mem} {Q : Value → Mem → Prop}
end
end Go.Proofs.Ytkelbhcaecojkaa.Run
