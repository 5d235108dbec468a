/- Rows of rows: grids. -/
import Derived.Test.YtifemfnjoobiiaaRowH
namespace Go.Proofs.Ytifemfnjoobiiaa.Run
open Go Go.RowKit
set_option linter.unusedVariables false
set_option linter.unusedSimpArgs false
abbrev Gd := List (List Ce)
def Gr (M : Mem) (v : Value) (G : Gd) : Prop := ∃ P : Parts, Sl M v P.row ∧ (∀ p ∈ P, Sl M p.1 p.2) ∧ P.map (·.2) = G
def GrN (M₀ M : Mem) (v : Value) (G : Gd) : Prop := ∃ P : Parts, Mine 26 M₀ M v P.row ∧ (∀ p ∈ P, Mine 42 M₀ M p.1 p.2) ∧ P.map (·.2) = G
section
variable {M₀ M M' : Mem} {v : Value} {G : Gd}
theorem Gr.ext (e : Ext M M') (h : Gr M v G) : Gr M' v G := by
 obtain ⟨P, h1, h2, h3⟩ := h
 exact ⟨P, h1.ext e, fun p hp => (h2 p hp).ext e, h3⟩
theorem Gr.freeze (h : Gr M v G) : Gr M.freeze v G := h
theorem Gr.nil : Gr M (.slice none 0 0) [] := ⟨[], Sl.nil _, by simp, rfl⟩
theorem GrN.ext (e : Ext M M') (h : GrN M₀ M v G) : GrN M₀ M' v G := by
 obtain ⟨P, h1, h2, h3⟩ := h
 exact ⟨P, h1.ext e, fun p hp => (h2 p hp).ext e, h3⟩
theorem GrN.old {M₁ : Mem} (e : Ext M₁ M₀) (h : GrN M₀ M v G) : GrN M₁ M v G := by
 obtain ⟨P, h1, h2, h3⟩ := h
 exact ⟨P, h1.old e, fun p hp => (h2 p hp).old e, h3⟩
theorem GrN.gr (h : GrN M₀ M v G) : Gr M v G := by
 obtain ⟨P, h1, h2, h3⟩ := h
 exact ⟨P, h1.sl, fun p hp => (h2 p hp).sl, h3⟩
theorem Gr.shape (h : Gr M v G) : ∃ a cap, v = .slice a G.length cap := by
 obtain ⟨P, h1, _, rfl⟩ := h
 obtain ⟨a, cap, e⟩ := h1.shape
 exact ⟨a, cap, by simpa using e⟩
theorem mine_keep {ty ty' : TypeId} {s x : Value} {R : List Vl} {L : List Ce} (hs : Mine ty M₀ M s R) (hx : Mine ty' M₀ M x L) (hne : ty' ≠ ty) (k : ∀ c, c < M.size → blk s ≠ some c → M'.get c = M.get c) : Mine ty' M₀ M' x L := by
 rcases hx with ⟨b, sp, rfl, h1, h2⟩ | hx
 ·refine .inl ⟨b, sp, rfl, ?_, h2⟩
  rw [k b (Mem.lt_of_get h1)]
  ·exact h1
  ·rcases hs with ⟨b', sp', rfl, h3, _⟩ | ⟨_, rfl⟩
   ·intro e
    simp only [blk] at e
    cases e
    rw [h1] at h3; exact hne (AObj.cells.inj (Option.some.inj h3)).2.1
   ·simp [blk]
 ·exact .inr hx
theorem appG {bytes : Nat} (e : Ext M₀ M) (hb : M₀.base ≤ M₀.size) {s x : Value} (hA : GrN M₀ M s G) {L : List Ce} (hL : Mine 42 M₀ M x L) (hn : G.length + 1 ≤ 2 ^ 20) (hby : bytes ≤ 2 ^ 20) {z : Value} :
  ∃ l M1, opSem (.lit 26 1 [z] [(0, (1, (.const x)))]) [] M = some (l, M1) ∧ Ext M M1 ∧ ∃ v M', opSem (.append 26 bytes 1 false (.const s) (.const l)) [] M1 = some (v, M') ∧ Ext M₀ M' ∧ GrN M₀ M' v (G ++ [L]) ∧ (∀ c, c < M.size → blk s ≠ some c → M'.get c = M.get c) := by
 obtain ⟨P, h1, h2, rfl⟩ := hA
 have hf : fillL [z] ([(0, 1, Operand.const x)].map fun p => (p.1, p.2.1, ev [] p.2.2)) = some (flat [(⟨x⟩ : Vl)]) := fill1 hL.sl.srcs
 obtain ⟨l, M1, hl, e1, n1⟩ : ∃ l M1, opSem (.lit 26 1 [z] [(0, (1, (.const x)))]) [] M = some (l, M1) ∧ Ext M M1 ∧ New 26 M M1 l [(⟨x⟩ : Vl)] := step_lit [(⟨x⟩ : Vl)] hf rfl fun v M' e n => ⟨e, n⟩
 have hPl : P.row.length = (P.map (·.2)).length := by simp
 obtain ⟨v, M', ha, e', m', k'⟩ : ∃ v M', opSem (.append 26 bytes 1 false (.const s) (.const l)) [] M1 = some (v, M') ∧ Ext M₀ M' ∧ Mine 26 M₀ M' v (P.row ++ [(⟨x⟩ : Vl)]) ∧ (∀ c, c < M1.size → blk s ≠ some c → M'.get c = M1.get c) :=
  step_appM (bytes := bytes) (e.trans e1) hb (h1.ext e1) n1.sl.srcs (by rw [hPl]; simp only [List.length_singleton]; omega) (by
   rw [hPl]; simp only [List.length_singleton]
   exact Nat.le_trans (Nat.mul_le_mul hn hby) (by decide)) fun v M' e' m' k' => ⟨e', m', k'⟩
 refine ⟨l, M1, hl, e1, v, M', ha, e', ⟨P ++ [(x, L)], ?_, ?_, by simp⟩, fun c hc hne => by rw [k' c (by have := e1.size; omega) hne, e1.get c hc]⟩
 ·have : Parts.row (P ++ [(x, L)]) = P.row ++ [(⟨x⟩ : Vl)] := by simp [Parts.row]
  rw [this]; exact m'
 ·intro p hp
  rcases List.mem_append.1 hp with hp | hp
  ·exact mine_keep (h1.ext e1) ((h2 p hp).ext e1) (by decide) k'
  ·rw [List.mem_singleton] at hp; subst hp
   exact mine_keep (h1.ext e1) (hL.ext e1) (by decide) k'
end
end Go.Proofs.Ytifemfnjoobiiaa.Run
