/- What Put, Insert, Delete, Erase, Resize, Level and Whole of chapter 10 do. -/
import Derived.Test.YtifemfnjoobiiaaRowB
namespace Go.Proofs.Ytifemfnjoobiiaa.Run
open Go Go.RowKit
set_option linter.unusedVariables false
set_option linter.unusedSimpArgs false
def clampN (x : Int) (n : Nat) : Nat := (max 0 (min x n)).toNat
theorem clampN_eq (x : Int) (n : Nat) : ((clampN x n : Nat) : Int) = max 0 (min x n) := by unfold clampN; omega
theorem clampN_le (x : Int) (n : Nat) : clampN x n ≤ n := by unfold clampN; omega
theorem breakF_clamp (L : List Ce) (x : Int) : breakF L x = if cutF L (clampN x L.length) then bareAt (bareAt L (clampN x L.length - 1)) (clampN x L.length) else L := rfl
section
variable {M : Mem} {Q : Value → Mem → Prop}
abbrev Parts := List (Value × List Ce)
abbrev Parts.row (P : Parts) : List Vl := P.map fun p => ⟨p.1⟩
abbrev Parts.all (P : Parts) : List Ce := (P.map fun p => p.2).flatten
theorem fill1 {α : Type} [Enc α] {N : Mem} {z1 : Value} {v1 : Value} {L1 : List α} (h1 : Srcs N v1 L1) :
  fillL [z1] ([(0, 1, Operand.const v1)].map fun p => (p.1, p.2.1, ev [] p.2.2)) = some (flat [(⟨v1⟩ : Vl)]) := by
 simp [fillL, ev, h1.cells, splice, flat, Enc.enc]
def brk2 (L : List Ce) (i j : Int) : List Ce := breakF (breakF L i) j
theorem brk2_len (L : List Ce) (i j : Int) : (brk2 L i j).length = L.length := by unfold brk2; rw [breakF_len, breakF_len]
def insertF (L : List Ce) (x n : Int) (c : Ce) : List Ce :=
 (brk2 L (clampN x L.length : Nat) (L.length - clampN n (L.length - clampN x L.length) : Nat)).take (clampN x L.length) ++ List.replicate (clampN n (L.length - clampN x L.length)) c ++
 ((brk2 L (clampN x L.length : Nat) (L.length - clampN n (L.length - clampN x L.length) : Nat)).take (L.length - clampN n (L.length - clampN x L.length))).drop (clampN x L.length)
def deleteF (L : List Ce) (x n : Int) (c : Ce) : List Ce :=
 (brk2 L (clampN x L.length : Nat) (clampN x L.length + clampN n (L.length - clampN x L.length) : Nat)).take (clampN x L.length) ++
 (brk2 L (clampN x L.length : Nat) (clampN x L.length + clampN n (L.length - clampN x L.length) : Nat)).drop (clampN x L.length + clampN n (L.length - clampN x L.length)) ++ List.replicate (clampN n (L.length - clampN x L.length)) c
def eraseF (L : List Ce) (x y : Int) (c : Ce) : List Ce :=
 if clampN y L.length ≤ clampN x L.length then L else
 (brk2 L (clampN x L.length : Nat) (clampN y L.length : Nat)).take (clampN x L.length) ++ List.replicate (clampN y L.length - clampN x L.length) c ++ (brk2 L (clampN x L.length : Nat) (clampN y L.length : Nat)).drop (clampN y L.length)
def resizeF (L : List Ce) (n : Nat) (c : Ce) : List Ce := (breakF L n).take n ++ List.replicate (n - L.length) c
def putC (c : Ce) (wide : Bool) : List Ce := if wide then [{ c with kind := 1 }, c.half] else [{ c with kind := 0 }]
def putF (L : List Ce) (x : Int) (c : Ce) (wide : Bool) : List Ce :=
 if x < 0 ∨ x + (putC c wide).length > L.length then L else (brk2 L x (x + (putC c wide).length)).take x.toNat ++ putC c wide ++ (brk2 L x (x + (putC c wide).length)).drop (x + (putC c wide).length).toNat
end
end Go.Proofs.Ytifemfnjoobiiaa.Run
