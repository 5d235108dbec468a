/- Steps of grids, plain: what stays whole, and how many rows and columns there are. -/
import Derived.Test.YtifemfnjoobiiaaLawA
namespace Go.Proofs.Ytifemfnjoobiiaa.Run
open Go Go.RowKit
set_option linter.unusedVariables false
set_option linter.unusedSimpArgs false
theorem mem_modG {G : Gd} {i : Nat} {f : List Ce → List Ce} {L : List Ce} (h : L ∈ modG G i f) : L ∈ G ∨ ∃ K ∈ G, L = f K := by
 unfold modG at h
 split at h
 ·rename_i K hK
  rcases List.mem_or_eq_of_mem_set h with h | h
  ·exact .inl h
  ·exact .inr ⟨K, List.mem_of_getElem? hK, h⟩
 ·exact .inl h
theorem mem_atG {G : Gd} {C : Nat} {r c : Int} {f : List Ce → List Ce} {L : List Ce} (h : L ∈ atG G C r c f) : L ∈ G ∨ ∃ K ∈ G, L = f K := by
 unfold atG at h
 split at h
 ·exact mem_modG h
 ·exact .inl h
theorem mem_scrollG {up : Bool} {G : Gd} {C : Nat} {t b n : Int} {z : Ce} {L : List Ce} (h : L ∈ (scrollG up G C t b n z).1) : L ∈ G ∨ L = List.replicate C z := by
 unfold scrollG at h
 split at h
 ·simp only at h
  have hF : ∀ {m : Nat}, L ∈ List.replicate m (List.replicate C z) → L = List.replicate C z := fun h => (List.mem_replicate.1 h).2
  have hR : L ∈ (G.take (b.toNat + 1)).drop t.toNat → L ∈ G := fun h => List.mem_of_mem_take (List.mem_of_mem_drop h)
  split at h
  ·simp only [List.mem_append] at h
   rcases h with (h | h | h) | h
   ·exact .inl (List.mem_of_mem_take h)
   ·exact .inl (hR (List.mem_of_mem_drop h))
   ·exact .inr (hF h)
   ·exact .inl (List.mem_of_mem_drop h)
  ·simp only [List.mem_append] at h
   rcases h with (h | h | h) | h
   ·exact .inl (List.mem_of_mem_take h)
   ·exact .inr (hF h)
   ·exact .inl (hR (List.mem_of_mem_take h))
   ·exact .inl (List.mem_of_mem_drop h)
 ·exact .inl h
theorem mem_went {up : Bool} {G : Gd} {C : Nat} {t b n : Int} {z : Ce} {L : List Ce} (h : L ∈ (scrollG up G C t b n z).2) : L ∈ G := by
 unfold scrollG at h
 split at h
 ·simp only at h
  split at h
  ·exact List.mem_of_mem_take (List.mem_of_mem_drop (List.mem_of_mem_take h))
  ·exact List.mem_of_mem_take (List.mem_of_mem_drop (List.mem_of_mem_drop h))
 ·cases h
theorem blankS_kind (s : Sp) : (blankS s).kind = 0 := rfl
theorem actF_kind (s : Sp) (R C : Int) : (actF s R C).cell.kind = 0 := by unfold actF; simp only; split <;> rfl
def WhA (G : Gd) : Prop := ∀ L ∈ G, Wh L
theorem WhA.act {G : Gd} (w : WhA G) (C : Nat) {a : Ac} (ha : a.cell.kind = 0) : WhA (actG G C a) := by
 intro L hL
 unfold actG putG markG insertG deleteG eraseG at hL
 have fin : ∀ {f : List Ce → List Ce}, (∀ K, Wh K → Wh (f K)) → (L ∈ G ∨ ∃ K ∈ G, L = f K) → Wh L := fun hf h => by
  rcases h with h | ⟨K, hK, rfl⟩
  ·exact w L h
  ·exact hf K (w K hK)
 repeat' split at hL
 ·exact fin (fun K wK => wK.putF _ _ _) (mem_atG hL)
 ·exact fin (fun K wK => wK.markF _ _ _) (mem_atG hL)
 ·exact fin (fun K wK => wK.insert _ _ ha) (mem_atG hL)
 ·exact fin (fun K wK => wK.delete _ _ ha) (mem_atG hL)
 ·exact fin (fun K wK => wK.erase _ _ ha) (mem_modG hL)
 ·exact w L hL
theorem WhA.scroll {G : Gd} (w : WhA G) (up : Bool) (C : Nat) (t b n : Int) {z : Ce} (hz : z.kind = 0) : WhA (scrollG up G C t b n z).1 ∧ WhA (scrollG up G C t b n z).2 := by
 refine ⟨fun L hL => ?_, fun L hL => w L (mem_went hL)⟩
 rcases mem_scrollG hL with h | rfl
 ·exact w L h
 ·exact Wh.rep _ hz
theorem WhA.raise {G : Gd} (w : WhA G) (l : Int) : WhA (raiseG G l) := fun L hL => by
 obtain ⟨K, hK, rfl⟩ := List.mem_map.1 hL
 exact (w K hK).raise l
theorem WhA.resize {G : Gd} (w : WhA G) (r c : Nat) {z : Ce} (hz : z.kind = 0) : WhA (resizeG G r c z) := fun L hL => by
 unfold resizeG at hL
 rcases List.mem_append.1 hL with h | h
 ·obtain ⟨K, hK, rfl⟩ := List.mem_map.1 (List.mem_of_mem_take h)
  exact (w K hK).resize c hz
 ·rw [(List.mem_replicate.1 h).2]; exact Wh.rep _ hz
theorem WhA.does {G : Gd} (w : WhA G) (s : Sp) (C : Nat) : WhA (doesF s G C).1 ∧ WhA (doesF s G C).2.2 := by
 have nil : WhA [] := fun L hL => by cases hL
 unfold doesF
 repeat' split
 ·exact w.scroll _ C _ _ _ (blankS_kind s)
 ·exact ⟨w.raise _, nil⟩
 ·exact ⟨w.resize _ _ (blankS_kind s), nil⟩
 ·exact ⟨w, nil⟩
 ·exact ⟨w.act C (actF_kind s _ _), nil⟩
end Go.Proofs.Ytifemfnjoobiiaa.Run
