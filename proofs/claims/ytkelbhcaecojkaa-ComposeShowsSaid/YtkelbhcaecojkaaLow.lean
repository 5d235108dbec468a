/- Grids that look alike to Low. -/
import Derived.Test.YtkelbhcaecojkaaGridB
import Derived.Test.YtkelbhcaecojkaaStep
import Derived.Test.YtkelbhcaecojkaaRowPB
namespace Go.Proofs.Ytkelbhcaecojkaa.Run
open Go Go.RowKit
set_option linter.unusedVariables false
set_option linter.unusedSimpArgs false
section
variable {M : Mem} {Q : Value → Mem → Prop}
end
end Go.Proofs.Ytkelbhcaecojkaa.Run
namespace Go.Proofs.Ytkelbhcaecojkaa.Run
open Go Go.RowKit
set_option linter.unusedVariables false
set_option linter.unusedSimpArgs false
structure LowG (A B : Gd) : Prop where
  len : A.length = B.length
  row : ∀ (i : Nat) (L K : List Ce), A[i]? = some L → B[i]? = some K → Low L K
theorem LowG.get {A B : Gd} (h : LowG A B) {i : Nat} {L : List Ce} (hL : A[i]? = some L) : ∃ K, B[i]? = some K ∧ Low L K := by
  have := (List.getElem?_eq_some_iff.1 hL).1
  obtain ⟨K, hK⟩ : ∃ K, B[i]? = some K := ⟨_, List.getElem?_eq_getElem (by have := h.len; omega)⟩
  exact ⟨K, hK, h.row i L K hL hK⟩
def WhG (G : Gd) : Prop := ∀ L ∈ G, Wh L
def LbG (G : Gd) : Prop := ∀ L ∈ G, Lb L
theorem cut_take {L : List Ce} {n j : Nat} (h : cutF (L.take n) j = true) : cutF L j = true := by
  obtain ⟨a, b, h0, h1, h2, h3, h4⟩ := cutF_iff.1 h
  refine cutF_iff.2 ⟨a, b, h0, ?_, ?_, h3, h4⟩
  · rw [List.getElem?_take] at h1; split at h1
    · exact h1
    · cases h1
  · rw [List.getElem?_take] at h2; split at h2
    · exact h2
    · cases h2
theorem clampN_of {x : Int} {n : Nat} (h0 : 0 ≤ x) (h : x ≤ n) : clampN x n = x.toNat := by unfold clampN; omega
theorem getD_some {G : Gd} {i : Nat} {L : List Ce} (h : G[i]? = some L) : G.getD i [] = L := by rw [List.getD_eq_getElem?_getD, h]; rfl
section
variable {A B : Gd} {C : Nat}
theorem getD_mem {G : Gd} {i : Nat} (h : i < G.length) : G.getD i [] ∈ G := by
  obtain ⟨L, hL⟩ : ∃ L, G[i]? = some L := ⟨_, List.getElem?_eq_getElem h⟩
  rw [getD_some hL]; exact List.mem_of_getElem? hL
theorem LowG.getD (h : LowG A B) (i : Nat) : Low (A.getD i []) (B.getD i []) := by
  by_cases hi : i < A.length
  · obtain ⟨L, hL⟩ : ∃ L, A[i]? = some L := ⟨_, List.getElem?_eq_getElem hi⟩
    obtain ⟨K, hK, r⟩ := h.get hL
    rw [getD_some hL, getD_some hK]; exact r
  · rw [List.getD_eq_getElem?_getD, List.getD_eq_getElem?_getD, List.getElem?_eq_none (by omega), List.getElem?_eq_none (by have := h.len; omega)]
    exact Low.refl _
end
theorem grid_ok (c : Int) (T : Lns) : WhG (gridF c T) ∧ LbG (gridF c T) := by
  constructor
  · intro L hL
    obtain ⟨p, _, rfl⟩ := List.mem_map.1 hL
    exact (row_ok _ _ _).1
  · intro L hL
    obtain ⟨p, _, rfl⟩ := List.mem_map.1 hL
    exact (row_ok _ _ _).2
end Go.Proofs.Ytkelbhcaecojkaa.Run
