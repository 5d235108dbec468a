/- What Level, Whole and Mark of chapter 10 do, and Same of the document's answer. -/
import Derived.Test.YtifemfnjoobiiaaRowC
import Derived.Test.YtifemfnjoobiiaaVcB
namespace Go.Proofs.Ytifemfnjoobiiaa.Run
open Go Go.RowKit
set_option linter.unusedVariables false
set_option linter.unusedSimpArgs false
theorem eqCells_int {ss : List Nat} {k : IntKind} {a b : Int} {xs ys : List Value} {r : Bool} (h : eqCells ss xs ys = some r) : eqCells (0 :: ss) (.int k a :: xs) (.int k b :: ys) = some (decide (a = b) && r) := by
 simp only [eqCells, cellEq, if_true]
 by_cases hc : a = b
 ·subst hc; simp [h]
 ·simp [hc]
theorem eqCells_nil : eqCells [] [] [] = some true := rfl
abbrev sig14 : List Nat := [0, 0, 0, 0, 0, 0, 0, 0, 0, 0, 0, 0, 0, 0]
theorem eqCe (a b : Ce) : eqV true sig14 a.val b.val = some (decide (a = b)) := by
 obtain ⟨a1, a2, a3, a4, ⟨a5, a6, a7, a8, a9, a10, a11, a12, a13⟩, a14⟩ := a
 obtain ⟨b1, b2, b3, b4, ⟨b5, b6, b7, b8, b9, b10, b11, b12, b13⟩, b14⟩ := b
 show eqCells sig14 _ _ = _
 refine Eq.trans (eqCells_int (eqCells_int (eqCells_int (eqCells_int (eqCells_int (eqCells_int (eqCells_int (eqCells_int (eqCells_int (eqCells_int (eqCells_int (eqCells_int (eqCells_int (eqCells_int eqCells_nil)))))))))))))) ?_
 congr 1
 simp only [Ce.mk.injEq, At9.mk.injEq, Bool.and_true]
 rw [Bool.eq_iff_iff]
 simp only [Bool.and_eq_true, decide_eq_true_eq]
 constructor <;> (intro h; simp only [h, and_self, true_and])
theorem step_neqCe {P : Value → Prop} {a b : Ce} (p : P (.bool (decide (a ≠ b)))) : ∃ v, binV .neq 2 sig14 a.val b.val = some v ∧ P v := by
 refine ⟨.bool (decide (a ≠ b)), ?_, p⟩
 have h : binV .neq 2 sig14 a.val b.val = (eqV true sig14 a.val b.val).bind (negIf .neq) := rfl
 rw [h, eqCe]
 simp [negIf]
section
variable {M : Mem} {Q : Value → Mem → Prop}
def wholeF : List Ce → Bool
 | [] => true
 | c :: r => if c.kind = 0 then wholeF r else if c.kind = 1 then (match r with
  | [] => false
  | d :: r' => decide (d = c.half) && wholeF r') else false
theorem wholeF_cons (c : Ce) (r : List Ce) : wholeF (c :: r) = if c.kind = 0 then wholeF r else if c.kind = 1 then (match r with
  | [] => false
  | d :: r' => decide (d = c.half) && wholeF r') else false := by conv => lhs; unfold wholeF
abbrev whI (M : Mem) (L : List Ce) (v : Value) : Nat → LS → Prop := fun k s => ∃ (i : Nat) (M' : Mem), s = row_Whole_l1_s v (.int .i64 i) [] M' ∧ Ext M M' ∧ i ≤ L.length ∧ wholeF L = wholeF (L.drop i) ∧ k = L.length - i
theorem whole_W (hM : M.base ≤ M.size) {v : Value} {L : List Ce} (h : Sl M v L) (hL : L.length ≤ 2 ^ 40) (q : ∀ M', Ext M M' → Q (.bool (wholeF L)) M') : W funs known (.func (.func n_row_Whole) #[] #[]) [v] M Q := by
 obtain ⟨ad, cap, rfl⟩ := h.shape
 refine row_Whole_wp hM ?_
 refine ⟨row_Whole_l1_m, whI M L (.slice ad L.length cap), ⟨L.length, 0, M, rfl, Ext.refl M, Nat.zero_le _, rfl, rfl⟩, ?_⟩
 rintro k s ⟨i, M', rfl, eM, hi, hw, rfl⟩
 refine row_Whole_l1_wp (I := whI M L (.slice ad L.length cap)) ?_
 have hS := h.ext eM
 refine step_len (step_lss (wpIf.dec (fun h1 => ?_) (fun h1 => ?_)))
 ·have hlt : i < L.length := by omega
  obtain ⟨a, ha⟩ : ∃ a, L[i]? = some a := ⟨_, List.getElem?_eq_getElem hlt⟩
  have hd : L.drop i = a :: L.drop (i + 1) := by
   obtain ⟨_, rfl⟩ := List.getElem?_eq_some_iff.1 ha
   exact List.drop_eq_getElem_cons hlt
  rw [hd, wholeF_cons] at hw
  refine rd_f hS (by omega) (by rw [Int.toNat_natCast]; exact ha) (f := 3) rfl fun _ _ => step_eql (wpIf.dec (fun h2 => ?_) (fun h2 => ?_))
  ·rw [if_pos h2] at hw
   exact step_add (by omega) (by omega) ⟨L.length - (i + 1), by omega, i + 1, M', rfl, eM, by omega, hw, rfl⟩
  rw [if_neg h2] at hw
  refine step_eql (wpIf.dec (fun h3 => ?_) (fun h3 => ?_))
  ·rw [if_pos h3] at hw
   refine step_add (by omega) (by omega) (step_len (step_eql (wpIf.dec (fun h4 => ?_) (fun h4 => ?_))))
   ·rw [List.drop_of_length_le (by omega)] at hw
    have := q M' eM
    rw [hw] at this
    exact this
   obtain ⟨d, hb⟩ : ∃ d, L[i + 1]? = some d := ⟨_, List.getElem?_eq_getElem (by omega)⟩
   have hd1 : L.drop (i + 1) = d :: L.drop (i + 2) := by
    obtain ⟨_, rfl⟩ := List.getElem?_eq_some_iff.1 hb
    exact List.drop_eq_getElem_cons _
   rw [hd1] at hw
   refine step_add (by omega) (by omega) ?_
   refine rd (i := (i : Int) + 1) hS (by omega) (by rw [show ((i : Int) + 1).toNat = i + 1 by omega]; exact hb) fun _ => ?_
   refine rd hS (by omega) (by rw [Int.toNat_natCast]; exact ha) fun _ => ?_
   refine half_W (freeze_ok _) fun M18 e18 => step_neqCe (wpIf.dec (fun h5 => ?_) (fun h5 => ?_))
   ·simp only [h5, decide_false, Bool.false_and] at hw
    have := q _ (eM.trans (Ext.thaw e18))
    rw [hw] at this
    exact this
   ·have h6 : d = a.half := Decidable.not_not.1 h5
    simp only [h6, decide_true, Bool.true_and] at hw
    refine step_add (by omega) (by omega) (step_add (by omega) (by omega) ⟨L.length - (i + 2), by omega, i + 2, _, ?_, eM.trans (Ext.thaw e18), by omega, hw, rfl⟩)
    rw [show ((i : Int) + 1 + 1) = ((i + 2 : Nat) : Int) by omega]
  ·rw [if_neg h3] at hw
   have := q M' eM
   rw [hw] at this
   exact this
 ·refine blockK.hit (row_Whole_c0_wp ?_)
  have := q M' eM
  rw [hw, List.drop_of_length_le (by omega)] at this
  exact this
end
end Go.Proofs.Ytifemfnjoobiiaa.Run
