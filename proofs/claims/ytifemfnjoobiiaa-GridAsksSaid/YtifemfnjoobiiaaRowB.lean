/- What Break of chapter 10 does. -/
import Derived.Test.YtifemfnjoobiiaaRow
import Derived.Test.YtifemfnjoobiiaaStep
namespace Go.Proofs.Ytifemfnjoobiiaa.Run
open Go Go.RowKit
set_option linter.unusedVariables false
set_option linter.unusedSimpArgs false
def cutF (L : List Ce) (j : Nat) : Bool := match L[j - 1]?, L[j]? with
 | some a, some b => decide (0 < j ∧ a.kind = 1 ∧ b.kind = 2)
 | _, _ => false
theorem cutF_iff {L : List Ce} {j : Nat} : cutF L j = true ↔ ∃ a b, 0 < j ∧ L[j - 1]? = some a ∧ L[j]? = some b ∧ a.kind = 1 ∧ b.kind = 2 := by
 unfold cutF
 constructor
 ·intro h
  split at h
  ·rename_i a b ha hb
   have := of_decide_eq_true h
   exact ⟨a, b, this.1, ha, hb, this.2⟩
  ·cases h
 ·rintro ⟨a, b, h0, ha, hb, h1, h2⟩
  rw [ha, hb]
  exact decide_eq_true ⟨h0, h1, h2⟩
def bareAt (L : List Ce) (j : Nat) : List Ce := match L[j]? with
 | some c => L.set j c.bare
 | none => L
def breakF (L : List Ce) (i : Int) : List Ce := if cutF L (max 0 (min i L.length)).toNat then bareAt (bareAt L ((max 0 (min i L.length)).toNat - 1)) (max 0 (min i L.length)).toNat else L
theorem bareAt_len (L : List Ce) (j : Nat) : (bareAt L j).length = L.length := by unfold bareAt; split <;> simp
theorem breakF_len (L : List Ce) (i : Int) : (breakF L i).length = L.length := by unfold breakF; split <;> simp [bareAt_len]
theorem bareAt_some {L : List Ce} {j : Nat} {c : Ce} (h : L[j]? = some c) : bareAt L j = L.set j c.bare := by unfold bareAt; rw [h]
section
variable {Q : Value → Mem → Prop}
end
end Go.Proofs.Ytifemfnjoobiiaa.Run
