/- What Level, Whole and Mark of chapter 10 do, and Same of the document's answer. -/
import Derived.Test.YtifemfnjoobiiaaRowC
import Derived.Test.YtifemfnjoobiiaaVcB
namespace Go.Proofs.Ytifemfnjoobiiaa.Run
open Go Go.RowKit
set_option linter.unusedVariables false
set_option linter.unusedSimpArgs false
theorem eqCells_int {ss : List Nat} {k : IntKind} {a b : Int} {xs ys : List Value} {r : Bool} (h : eqCells ss xs ys = some r) : eqCells (0 :: ss) (.int k a :: xs) (.int k b :: ys) = some (decide (a = b) && r) := by
 simp only [eqCells, cellEq, if_true]
 by_cases hc : a = b
 ·subst hc; simp [h]
 ·simp [hc]
theorem eqCells_nil : eqCells [] [] [] = some true := rfl
abbrev sig14 : List Nat := [0, 0, 0, 0, 0, 0, 0, 0, 0, 0, 0, 0, 0, 0]
theorem eqCe (a b : Ce) : eqV true sig14 a.val b.val = some (decide (a = b)) := by
 obtain ⟨a1, a2, a3, a4, ⟨a5, a6, a7, a8, a9, a10, a11, a12, a13⟩, a14⟩ := a
 obtain ⟨b1, b2, b3, b4, ⟨b5, b6, b7, b8, b9, b10, b11, b12, b13⟩, b14⟩ := b
 show eqCells sig14 _ _ = _
 refine Eq.trans (eqCells_int (eqCells_int (eqCells_int (eqCells_int (eqCells_int (eqCells_int (eqCells_int (eqCells_int (eqCells_int (eqCells_int (eqCells_int (eqCells_int (eqCells_int (eqCells_int eqCells_nil)))))))))))))) ?_
 congr 1
 simp only [Ce.mk.injEq, At9.mk.injEq, Bool.and_true]
 rw [Bool.eq_iff_iff]
 simp only [Bool.and_eq_true, decide_eq_true_eq]
 constructor <;> (intro h; simp only [h, and_self, true_and])
theorem step_neqCe {P : Value → Prop} {a b : Ce} (p : P (.bool (decide (a ≠ b)))) : ∃ v, binV .neq 2 sig14 a.val b.val = some v ∧ P v := by
 refine ⟨.bool (decide (a ≠ b)), ?_, p⟩
 have h : binV .neq 2 sig14 a.val b.val = (eqV true sig14 a.val b.val).bind (negIf .neq) := rfl
 rw [h, eqCe]
 simp [negIf]
section
variable {M : Mem} {Q : Value → Mem → Prop}
abbrev saI (M : Mem) (A B : List Ce) (v w : Value) : Nat → LS → Prop := fun k s => ∃ (i : Nat), s = ref10_Same_l1_s v w (.int .i64 i) [] M ∧ i ≤ A.length ∧ A.take i = B.take i ∧ k = A.length - i
theorem same_W (hM : M.base ≤ M.size) {v w : Value} {A B : List Ce} (h : Sl M v A) (h' : Sl M w B) (hL : A.length ≤ 2 ^ 40) (q : Q (.bool (decide (A = B))) M) : W funs known (.func (.func n_ref10_Same) #[] #[]) [v, w] M Q := by
 obtain ⟨ad, cap, rfl⟩ := h.shape
 obtain ⟨ad', cap', rfl⟩ := h'.shape
 refine ref10_Same_wp hM (step_len (step_len (step_neq (wpIf.dec (fun h1 => ?_) (fun h1 => ?_)))))
 ·exact q_of q (by rw [decide_eq_false]; rintro rfl; exact h1 rfl)
 have hl : A.length = B.length := by omega
 refine ⟨ref10_Same_l1_m, saI M A B (.slice ad A.length cap) (.slice ad' B.length cap'), ⟨A.length, 0, rfl, Nat.zero_le _, by simp, rfl⟩, ?_⟩
 rintro k s ⟨i, rfl, hi, hs, rfl⟩
 refine ref10_Same_l1_wp (I := saI M A B (.slice ad A.length cap) (.slice ad' B.length cap')) ?_
 refine step_len (step_lss (wpIf.dec (fun h2 => ?_) (fun h2 => ?_)))
 ·have hlt : i < A.length := by omega
  obtain ⟨a, ha⟩ : ∃ a, A[i]? = some a := ⟨_, List.getElem?_eq_getElem hlt⟩
  obtain ⟨b, hb⟩ : ∃ b, B[i]? = some b := ⟨_, List.getElem?_eq_getElem (by omega)⟩
  refine rd h (by omega) (by rw [Int.toNat_natCast]; exact ha) fun _ => ?_
  refine rd h' (by omega) (by rw [Int.toNat_natCast]; exact hb) fun _ => ?_
  refine step_neqCe (wpIf.dec (fun h3 => ?_) (fun h3 => ?_))
  ·refine q_of q (b := false) (by rw [decide_eq_false]; rintro rfl; rw [ha] at hb; cases hb; exact h3 rfl)
  ·have h4 : a = b := Decidable.not_not.1 h3
   exact step_add (by omega) (by omega) ⟨A.length - (i + 1), by omega, i + 1, rfl, by omega, by rw [List.take_add_one, List.take_add_one, ha, hb, hs, h4], rfl⟩
 ·refine blockK.hit (ref10_Same_c0_wp (q_of q (b := true) ?_))
  rw [List.take_of_length_le (by omega), List.take_of_length_le (by omega)] at hs
  rw [decide_eq_true hs]
end
end Go.Proofs.Ytifemfnjoobiiaa.Run
