/- Ranges over functions, over the calculus: what an iterator does with the thing that it yields to, and what the body of a range does. No statement of the program's is proved here. -/
import Derived.Test.YtifemfnjoobiiaaStep
namespace Go.Proofs.Ytifemfnjoobiiaa.Run
open Go Go.RowKit
set_option linter.unusedVariables false
set_option linter.unusedSimpArgs false
structure Touch (p : Nat → Prop) (M N : Mem) : Prop where
 base : N.base = M.base
 size : M.size ≤ N.size
 get : ∀ b, b < M.size → ¬ p b → N.get b = M.get b
structure Agree (l : Nat) (M N : Mem) : Prop where
 base : N.base = M.base
 size : N.size = M.size
 get : ∀ b, b ≠ l → N.get b = M.get b
structure Keep (n0 : Nat) (X B : List Nat) (M N : Mem) : Prop where
 base : N.base = M.base
 size : M.size ≤ N.size
 get : ∀ b, ((b < n0 ∧ b ∉ X) ∨ b ∈ B) → N.get b = M.get b
theorem Touch.refl (p : Nat → Prop) (M : Mem) : Touch p M M := ⟨rfl, Nat.le_refl _, fun _ _ _ => rfl⟩
theorem Touch.trans {p : Nat → Prop} {A B C : Mem} (h : Touch p A B) (k : Touch p B C) : Touch p A C := ⟨k.base.trans h.base, Nat.le_trans h.size k.size, fun b hb hp => (k.get b (Nat.lt_of_lt_of_le hb h.size) hp).trans (h.get b hb hp)⟩
theorem Ext.touch {A B : Mem} (h : Ext A B) (p : Nat → Prop) : Touch p A B := ⟨h.base, h.size, fun b hb _ => h.get b hb⟩
theorem Agree.touch {l : Nat} {A B : Mem} (h : Agree l A B) {p : Nat → Prop} (hl : p l) : Touch p A B := ⟨h.base, Nat.le_of_eq h.size.symm, fun b _ hp => h.get b (fun e => hp (e ▸ hl))⟩
theorem Touch.set {p : Nat → Prop} {A B : Mem} (h : Touch p A B) {b : Nat} (hb : p b) (hn : b < B.size) (o : AObj) : Touch p A (B.set b o) := ⟨h.base, h.size, fun c hc hp => by rw [Mem.get_set _ _ _ hn, if_neg (fun (e : c = b) => hp (by rw [e]; exact hb))]; exact h.get c hc hp⟩
theorem Own.take {L : List LB} {M : Mem} (h : Own L M) (n : Nat) : Own (L.take n) M := by
 refine ⟨h.base, fun l hl => h.has l (List.mem_of_mem_take hl), fun i j l m hi hj hb => ?_⟩
 rw [List.getElem?_take] at hi hj
 split at hi
 ·split at hj
  ·exact h.inj i j l m hi hj hb
  ·cases hj
 ·cases hi
section
variable (F : Funs) (E : Orac)
end
section
variable {F : Funs} {E : Orac}
end
end Go.Proofs.Ytifemfnjoobiiaa.Run
