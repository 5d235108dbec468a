/- What Level, Whole and Mark of chapter 10 do, and Same of the document's answer. -/
import Derived.Test.YtifemfnjoobiiaaRowC
import Derived.Test.YtifemfnjoobiiaaVcB
namespace Go.Proofs.Ytifemfnjoobiiaa.Run
open Go Go.RowKit
set_option linter.unusedVariables false
set_option linter.unusedSimpArgs false
section
variable {M : Mem} {Q : Value → Mem → Prop}
def joinsF (l : Int) (L : List Ce) : Int := L.foldl (fun l c => joinF l c.label) l
def levelF (L : List Ce) (x y : Int) : Int := joinsF 0 ((L.take (clampN y L.length)).drop (clampN x L.length))
abbrev leI (M : Mem) (L : List Ce) (v : Value) (f t : Nat) : Nat → LS → Prop := fun k s => ∃ (i : Nat) (M' : Mem), s = row_Level_l1_s v (.int .i64 t) (.int .u8 (joinsF 0 ((L.take i).drop f))) (.int .i64 i) [] M' ∧ Ext M M' ∧ f ≤ i ∧ i ≤ max f t ∧ k = t - i
theorem level_W (hM : M.base ≤ M.size) {v : Value} {L : List Ce} (h : Sl M v L) (hL : L.length ≤ 2 ^ 40) {x y : Int} (q : ∀ M', Ext M M' → Q (.int .u8 (levelF L x y)) M') : W funs known (.func (.func n_row_Level) #[] #[]) [v, .int .i64 x, .int .i64 y] M Q := by
 obtain ⟨ad, cap, rfl⟩ := h.shape
 refine row_Level_wp hM (within_W' hM h (within_W' hM h ?_))
 unfold levelF at q
 have hx := clampN_le x L.length
 have hy := clampN_le y L.length
 generalize clampN x L.length = f at q hx ⊢
 generalize clampN y L.length = t at q hy ⊢
 have h0 : joinsF 0 ((L.take f).drop f) = 0 := by rw [List.drop_of_length_le (by rw [List.length_take]; omega)]; rfl
 refine ⟨row_Level_l1_m, leI M L (.slice ad L.length cap) f t, ⟨t - f, f, M, by rw [h0]; rfl, Ext.refl M, Nat.le_refl _, by omega, rfl⟩, ?_⟩
 rintro k s ⟨i, M', rfl, eM, hfi, hi, rfl⟩
 refine row_Level_l1_wp (I := leI M L (.slice ad L.length cap) f t) ?_
 refine step_lss (wpIf.dec (fun h1 => ?_) (fun h1 => ?_))
 ·have hlt : i < L.length := by omega
  obtain ⟨a, ha⟩ : ∃ a, L[i]? = some a := ⟨_, List.getElem?_eq_getElem hlt⟩
  have hnext : joinsF 0 ((L.take (i + 1)).drop f) = joinF (joinsF 0 ((L.take i).drop f)) a.label := by
   rw [List.take_add_one, ha, Option.toList_some, List.drop_append_of_le_length (by rw [List.length_take]; omega)]
   simp [joinsF, List.foldl_append]
  generalize joinsF 0 ((L.take i).drop f) = l at hnext ⊢
  obtain ⟨v5, M6, h5, e6, s6⟩ := lit2 l a.label M'
  refine rd_f (h.ext eM) (by omega) (by rw [Int.toNat_natCast]; exact ha) (f := 13) rfl fun _ _ => ⟨v5, M6, h5, join_W ((eM.trans e6).ok hM) s6 (by simp) fun b hb => ?_⟩
  rw [join2 hb]
  refine step_add (by omega) (by omega) ⟨t - (i + 1), by omega, i + 1, M6, ?_, eM.trans e6, by omega, by omega, rfl⟩
  rw [hnext]; rfl
 ·refine blockK.hit (row_Level_c0_wp ?_)
  have : (L.take t).drop f = (L.take i).drop f := by
   by_cases hc : f ≤ t
   ·rw [show i = t by omega]
   ·rw [show i = f by omega, List.drop_of_length_le (by rw [List.length_take]; omega), List.drop_of_length_le (by rw [List.length_take]; omega)]
  rw [this] at q
  exact q M' eM
end
end Go.Proofs.Ytifemfnjoobiiaa.Run
