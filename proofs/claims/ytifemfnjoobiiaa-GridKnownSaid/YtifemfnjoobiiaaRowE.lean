/- What Mark of chapter 10 does. -/
import Derived.Test.YtifemfnjoobiiaaRowD
namespace Go.Proofs.Ytifemfnjoobiiaa.Run
open Go Go.RowKit
set_option linter.unusedVariables false
set_option linter.unusedSimpArgs false
def Ce.mark (c : Ce) (m : Int) : Ce := if c.m1 = 0 then { c with m1 := m } else if c.m2 = 0 then { c with m2 := m } else c
def Ce.marked (c : Ce) (m l : Int) : Ce := (c.mark m).raise l
def markAt (L : List Ce) (i : Nat) (m l : Int) : List Ce :=
 match L[i]? with
 | none => L
 | some c => if c.rune = 0 then L else
  if c.kind = 1 then (match L[i + 1]? with
   | some d => (L.set i (c.marked m l)).set (i + 1) (d.raise l)
   | none => L.set i (c.marked m l)) else L.set i (c.marked m l)
def markF (L : List Ce) (x m l : Int) : List Ce :=
 if x < 0 ∨ x ≥ L.length then L else
 match L[x.toNat]? with
 | none => L
 | some c => if c.kind = 2 ∧ x > 0 then markAt L (x.toNat - 1) m l else markAt L x.toNat m l
theorem Ce.mark_kind (c : Ce) (m : Int) : (c.mark m).kind = c.kind ∧ (c.mark m).label = c.label ∧ (c.mark m).rune = c.rune ∧ (c.mark m).attr = c.attr := by
 unfold Ce.mark; split
 ·simp
 ·split <;> simp
section
variable {M : Mem} {Q : Value → Mem → Prop}
end
end Go.Proofs.Ytifemfnjoobiiaa.Run
