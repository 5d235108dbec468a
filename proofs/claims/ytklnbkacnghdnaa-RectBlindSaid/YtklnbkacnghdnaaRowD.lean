
/- What Level, Whole and Mark of chapter 10 do, and Same of the document's answer. -/
import Derived.Test.YtklnbkacnghdnaaRowC
import Derived.Test.YtklnbkacnghdnaaVcB
namespace Go.Proofs.Ytklnbkacnghdnaa.Run
open Go Go.RowKit
set_option linter.unusedVariables false
set_option linter.unusedSimpArgs false

theorem eqCells_int {ss : List Nat} {k : IntKind} {a b : Int} {xs ys : List Value} {r : Bool} (h : eqCells ss xs ys = some r) : eqCells (0 :: ss) (.int k a :: xs) (.int k b :: ys) = some (decide (a = b) && r) := by
  simp only [eqCells, cellEq, if_true]
  by_cases hc : a = b
  · subst hc; simp [h]
  · simp [hc]
theorem eqCells_nil : eqCells [] [] [] = some true := rfl
abbrev sig14 : List Nat := [0, 0, 0, 0, 0, 0, 0, 0, 0, 0, 0, 0, 0, 0]
theorem eqCe (a b : Ce) : eqV true sig14 a.val b.val = some (decide (a = b)) := by
  obtain ⟨a1, a2, a3, a4, ⟨a5, a6, a7, a8, a9, a10, a11, a12, a13⟩, a14⟩ := a
  obtain ⟨b1, b2, b3, b4, ⟨b5, b6, b7, b8, b9, b10, b11, b12, b13⟩, b14⟩ := b
  show eqCells sig14 _ _ = _
  refine Eq.trans (eqCells_int (eqCells_int (eqCells_int (eqCells_int (eqCells_int (eqCells_int (eqCells_int (eqCells_int (eqCells_int (eqCells_int (eqCells_int (eqCells_int (eqCells_int (eqCells_int eqCells_nil)))))))))))))) ?_
  congr 1
  simp only [Ce.mk.injEq, At9.mk.injEq, Bool.and_true]
  rw [Bool.eq_iff_iff]
  simp only [Bool.and_eq_true, decide_eq_true_eq]
  constructor <;> (intro h; simp only [h, and_self, true_and])
theorem step_neqCe {P : Value → Prop} {a b : Ce} (p : P (.bool (decide (a ≠ b)))) : ∃ v, binV .neq 2 sig14 a.val b.val = some v ∧ P v := by
  refine ⟨.bool (decide (a ≠ b)), ?_, p⟩
  have h : binV .neq 2 sig14 a.val b.val = (eqV true sig14 a.val b.val).bind (negIf .neq) := rfl
  rw [h, eqCe]
  simp [negIf]
theorem step_eqlCe {P : Value → Prop} {a b : Ce} (p : P (.bool (decide (a = b)))) : ∃ v, binV .eql 2 sig14 a.val b.val = some v ∧ P v := by
  refine ⟨.bool (decide (a = b)), ?_, p⟩
  have h : binV .eql 2 sig14 a.val b.val = (eqV true sig14 a.val b.val).bind (negIf .eql) := rfl
  rw [h, eqCe]
  simp [negIf]

section
variable {M : Mem} {Q : Value → Mem → Prop}

def joinsF (l : Int) (L : List Ce) : Int := L.foldl (fun l c => joinF l c.label) l
def levelF (L : List Ce) (x y : Int) : Int := joinsF 0 ((L.take (clampN y L.length)).drop (clampN x L.length))
/-- are all pairs whole? -/
def wholeF : List Ce → Bool
  | [] => true
  | c :: r => if c.kind = 0 then wholeF r else if c.kind = 1 then (match r with
    | [] => false
    | d :: r' => decide (d = c.half) && wholeF r') else false
theorem wholeF_cons (c : Ce) (r : List Ce) : wholeF (c :: r) = if c.kind = 0 then wholeF r else if c.kind = 1 then (match r with
    | [] => false
    | d :: r' => decide (d = c.half) && wholeF r') else false := by conv => lhs; unfold wholeF
end
end Go.Proofs.Ytklnbkacnghdnaa.Run
