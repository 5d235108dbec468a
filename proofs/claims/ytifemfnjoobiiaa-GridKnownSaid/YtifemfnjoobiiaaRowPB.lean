/- Rows of cells that look alike to Low, in plain words: they do so again behind the same acts; rows that are drawn are whole, and look alike. No program is spoken of. -/
import Derived.Test.YtifemfnjoobiiaaRowP
namespace Go.Proofs.Ytifemfnjoobiiaa.Run
open Go Go.RowKit
set_option linter.unusedVariables false
set_option linter.unusedSimpArgs false
def lowC (c d : Ce) : Prop := c.label = d.label ∧ (c.label = 0 → c = d)
theorem lowC.rfl' (c : Ce) : lowC c c := ⟨rfl, fun _ => rfl⟩
theorem lowC.symm {c d : Ce} (h : lowC c d) : lowC d c := ⟨h.1.symm, fun e => (h.2 (h.1.trans e)).symm⟩
theorem lowC.trans {a b c : Ce} (h : lowC a b) (k : lowC b c) : lowC a c := ⟨h.1.trans k.1, fun e => (h.2 e).trans (k.2 (h.1 ▸ e))⟩
def Lb (L : List Ce) : Prop := ∀ c ∈ L, c.label = 0 ∨ c.label = 1
abbrev Low (L K : List Ce) : Prop := Two lowC L K
theorem Low.refl (L : List Ce) : Low L L := Two.refl fun c _ => lowC.rfl' c
section
variable {L K : List Ce}
theorem joinF_01 (x y : Int) : joinF x y = 0 ∨ joinF x y = 1 := by unfold joinF; split <;> simp
theorem marked_label (c : Ce) (m l : Int) : (c.marked m l).label = joinF c.label l := by
 have := (Ce.mark_kind c m).2.1
 show joinF (c.mark m).label l = _
 rw [this]
theorem Lb.append {A B : List Ce} (h : Lb A) (k : Lb B) : Lb (A ++ B) := fun c hc => by
 rcases List.mem_append.1 hc with h' | h'
 ·exact h c h'
 ·exact k c h'
theorem Lb.take (h : Lb L) (n : Nat) : Lb (L.take n) := fun c hc => h c (List.mem_of_mem_take hc)
theorem Lb.drop (h : Lb L) (n : Nat) : Lb (L.drop n) := fun c hc => h c (List.mem_of_mem_drop hc)
theorem Lb.rep (n : Nat) {c : Ce} (h : c.label = 0 ∨ c.label = 1) : Lb (List.replicate n c) := fun d hd => by rw [(List.mem_replicate.1 hd).2]; exact h
theorem Lb.brk (h : Lb L) (x : Int) : Lb (breakF L x) := fun c hc => by
 obtain ⟨k, hk⟩ := List.mem_iff_getElem?.1 hc
 rw [breakF_get] at hk
 obtain ⟨d, hd, rfl⟩ := Option.map_eq_some_iff.1 hk
 have := h d (List.mem_of_getElem? hd)
 split
 ·exact this
 ·exact this
theorem Lb.brk2 (h : Lb L) (x y : Int) : Lb (brk2 L x y) := (h.brk x).brk y
theorem Lb.put (c : Ce) (wide : Bool) (h : c.label = 0 ∨ c.label = 1) : Lb (putC c wide) := by
 unfold putC
 intro d hd
 split at hd
 ·rcases List.mem_cons.1 hd with rfl | hd
  ·exact h
  ·rw [List.mem_singleton.1 hd]; exact h
 ·rw [List.mem_singleton.1 hd]; exact h
theorem Lb.set (h : Lb L) (i : Nat) {c : Ce} (hc : c.label = 0 ∨ c.label = 1) : Lb (L.set i c) := fun d hd => by
 rcases List.mem_or_eq_of_mem_set hd with h' | h'
 ·exact h d h'
 ·rw [h']; exact hc
theorem Lb.markAt (h : Lb L) (i : Nat) (m l : Int) : Lb (markAt L i m l) := by
 unfold Run.markAt
 split
 ·exact h
 split
 ·exact h
 split
 ·split
  ·exact (h.set _ (by rw [marked_label]; exact joinF_01 _ _)).set _ (joinF_01 _ _)
  ·exact h.set _ (by rw [marked_label]; exact joinF_01 _ _)
 ·exact h.set _ (by rw [marked_label]; exact joinF_01 _ _)
def offC (l : Int) (c d : Ce) : Prop := c.label = d.label ∧ (c.label ≠ l → c = d)
theorem offC.rfl' (l : Int) (c : Ce) : offC l c c := ⟨rfl, fun _ => rfl⟩
theorem offC.trans {l : Int} {a b c : Ce} (h : offC l a b) (k : offC l b c) : offC l a c := ⟨h.1.trans k.1, fun e => (h.2 e).trans (k.2 (h.1 ▸ e))⟩
def Labs (A : List Lv) (r : List Ce) : Prop := r.length = A.length ∧ ∀ (i : Nat) (c : Ce) (a : Lv), r[i]? = some c → A[i]? = some a → c.label = a.n
theorem Labs.off {A : List Lv} {l : Int} {r s : List Ce} (h : Labs A r) (t : Two (offC l) r s) : Labs A s := by
 refine ⟨by rw [← t.len]; exact h.1, fun i c a hc ha => ?_⟩
 obtain ⟨d, hd, r'⟩ := (t.symm (R := offC l) (fun _ _ h => ⟨h.1.symm, fun e => (h.2 (fun e' => e (h.1 ▸ e'))).symm⟩)).get hc
 rw [r'.1]
 exact h.2 i d a hd ha
end
end Go.Proofs.Ytifemfnjoobiiaa.Run
