/- Erase, Fill, Copy. -/
import Derived.Test.YtklnbkacnghdnaaRc
namespace Go.Proofs.Ytklnbkacnghdnaa.Run
open Go Go.RowKit
set_option linter.unusedVariables false
set_option linter.unusedSimpArgs false
def clippedF (G : Gd) (a : Rc) : Rc := match G with
  | [] => ⟨0, 0, 0, 0⟩
  | L :: _ => clipF a G.length L.length
def Flush (G : Gd) (C : Nat) : Prop := ∀ L ∈ G, L.length = C
theorem clipped_within {G : Gd} {C : Nat} (hC : Flush G C) (a : Rc) : (clippedF G a).within G.length C := by
  unfold clippedF
  cases G with
  | nil => exact ⟨by simp, by simp, by simp, by simp, by simp, by simp⟩
  | cons L G =>
    have : L.length = C := hC L List.mem_cons_self
    simp only [this]
    exact clip_within (by omega) (by omega)
theorem rspan_le {f n m : Int} (hm : 0 ≤ m) : (rspanF f n m).2 - (rspanF f n m).1 ≤ max 0 n := by
  unfold rspanF
  repeat' split
  all_goals simp only
  all_goals omega
theorem clip_le {a : Rc} {R C : Int} (hR : 0 ≤ R) (hC : 0 ≤ C) : (clipF a R C).r ≤ max 0 a.r ∧ (clipF a R C).c ≤ max 0 a.c ∧ (0 < (clipF a R C).r ↔ 0 < (clipF a R C).c) := by
  have h1 := rspan_le (f := a.t) (n := a.r) hR
  have h2 := rspan_le (f := a.l) (n := a.c) hC
  unfold clipF
  split
  · exact ⟨by simp only; omega, by simp only; omega, by simp⟩
  · exact ⟨h1, h2, by simp only; omega⟩
def zeroR : Rc := ⟨0, 0, 0, 0⟩
section
variable {M : Mem} {Q : Value → Mem → Prop}
theorem clipped_W (hM : M.base ≤ M.size) {v : Value} {G : Gd} (h : Gr M v G) (hl : ∀ L ∈ G, L.length ≤ 2 ^ 30) (hn : G.length ≤ 2 ^ 20) {a : Rc} (ha : a.ok) (q : ∀ M', Ext M M' → Q (clippedF G a).val M') : W funs known (.func (.func n_rect_clipped) #[] #[]) [v, a.val] M Q := by
  obtain ⟨ad, cap, rfl⟩ := h.shape
  refine rect_clipped_wp hM ⟨rfl, fun b1 M2 hb1 hM2 => ⟨rfl, fun b3 M4 hb3 hM4 => step_len ?_⟩⟩
  have e4 : Ext M M4 := (Ext.push' hM2).trans (Ext.push' hM4)
  have s2 : M2.size = M.size + 1 := by rw [hM2]; rfl
  have s4 : M4.size = M2.size + 1 := by rw [hM4]; rfl
  cases G with
  | nil => exact s_eqT rfl (wpIf.tt ⟨_, rfl, ⟨rfl, rfl, by decide⟩, fun M8 hM8 => LGetN.as (Rc.val ⟨0, 0, 0, 0⟩) (by decide) rfl (q _ (hM8 ▸ e4.set (by omega) (by omega) _))⟩)
  | cons L G =>
    have hL := hl L List.mem_cons_self
    refine s_eqF (by simp only [List.length_cons]; omega) (wpIf.ff (step_len (rdG (h.ext e4) (i := 0) (L := L) (by omega) rfl fun _ x sx => step_lenS sx ?_)))
    refine clip_W (e4.ok hM) ha ⟨by omega, by omega⟩ ⟨by omega, by omega⟩ fun M15 e15 => ⟨e15.keep _, ⟨rfl, rfl, by decide⟩, fun M16 hM16 => LGetN.as (clippedF (L :: G) a).val (by exact Nat.le_refl 4) rfl (q _ (hM16 ▸ (e4.trans e15).set (by omega) (by have := e15.size; omega) _))⟩
end
end Go.Proofs.Ytklnbkacnghdnaa.Run
