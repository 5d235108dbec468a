/- What copies, fills and erasures make of each other: plain Lean. -/
import Derived.Test.YtklnbkacnghdnaaRectB
import Derived.Test.YtklnbkacnghdnaaRowPB
namespace Go.Proofs.Ytklnbkacnghdnaa.Run
open Go Go.RowKit
set_option linter.unusedVariables false
set_option linter.unusedSimpArgs false
theorem eraseF_len' (L : List Ce) (x y : Int) (c : Ce) : (eraseF L x y c).length = L.length := by
  unfold eraseF
  split
  · rfl
  · have := clampN_le y L.length
    simp only [List.length_append, List.length_take, List.length_replicate, List.length_drop, brk2_len]; omega
theorem changed_flush {G : Gd} {C : Nat} (hC : Flush G C) {t n : Int} {F : Nat → List Ce} (hF : ∀ i, i < G.length → t ≤ i → (i : Int) < t + n → (F i).length = C) : Flush (changedF G t n F) C := by
  intro L hL
  obtain ⟨i, hi⟩ := List.mem_iff_getElem?.1 hL
  rw [changedF_get] at hi
  obtain ⟨K, hK, rfl⟩ := Option.map_eq_some_iff.1 hi
  split
  · rename_i h
    exact hF i (List.getElem?_eq_some_iff.1 hK).1 h.1 h.2
  · exact hC K (List.mem_of_getElem? hK)
theorem getD_some {G : Gd} {i : Nat} {L : List Ce} (h : G[i]? = some L) : G.getD i [] = L := by rw [List.getD_eq_getElem?_getD, h]; rfl
theorem getD_len {G : Gd} {C : Nat} (hC : Flush G C) {i : Nat} (hi : i < G.length) : (G.getD i []).length = C := by
  obtain ⟨L, hL⟩ : ∃ L, G[i]? = some L := ⟨_, List.getElem?_eq_getElem hi⟩
  rw [getD_some hL]; exact hC L (List.mem_of_getElem? hL)
theorem erase_flush {G : Gd} {C : Nat} (hC : Flush G C) (a : Rc) (c : Ce) : Flush (eraseG G a c) C := changed_flush hC fun i hi _ _ => by rw [eraseF_len']; exact getD_len hC hi
theorem copyRow_len {S L : List Ce} {f m : Rc} {C : Nat} (hS : S.length = C) (hL : L.length = C) (h : 0 ≤ f.l ∧ 0 ≤ m.l ∧ 0 ≤ m.c ∧ m.c ≤ f.c ∧ f.l + f.c ≤ C ∧ m.l + m.c ≤ C) : (copyRow S L f m).length = C := by
  unfold copyRow
  simp only [List.length_append, List.length_take, List.length_drop, brk2_len, breakF_len, hS, hL]
  omega
theorem copy_flush {G : Gd} {C : Nat} (hC : Flush G C) (a : Rc) (tr tc : Int) : Flush (copyG G a tr tc) C := by
  have w := clipped_within hC a
  obtain ⟨hm, h1, h2, _⟩ := comes_ok hC (clippedF G a) ⟨w.r, w.c⟩ tr tc
  refine changed_flush hC fun i hi i1 i2 => copyRow_len (getD_len hC ?_) (getD_len hC hi) ⟨w.l, hm.l, hm.c, h2, w.e, hm.e⟩
  have := w.b
  have := w.t
  have := hm.t
  omega
theorem copyG_len (G : Gd) (a : Rc) (tr tc : Int) : (copyG G a tr tc).length = G.length := changedF_len ..
theorem eraseG_len (G : Gd) (a : Rc) (c : Ce) : (eraseG G a c).length = G.length := changedF_len ..
theorem fillG_len (G : Gd) (a : Rc) (c : Ce) : (fillG G a c).length = G.length := changedF_len ..
theorem fill_flush {G : Gd} {C : Nat} (hC : Flush G C) (a : Rc) (c : Ce) : Flush (fillG G a c) C := erase_flush hC _ c
theorem rspan_own {f n m : Int} (h0 : 0 ≤ f) (hn : 0 < n) (hm : f + n ≤ m) : rspanF f n m = (f, f + n) := by
  unfold rspanF
  repeat' split
  all_goals first | omega | (apply Prod.ext <;> simp only <;> omega)
theorem clip_own {a : Rc} {R C : Int} (h : a.within R C) (hp : (0 < a.r ↔ 0 < a.c)) (hz : a.r = 0 → a = zeroR) : clipF a R C = a := by
  obtain ⟨h1, h2, h3, h4, h5, h6⟩ := h
  by_cases hr : 0 < a.r
  · unfold clipF
    rw [rspan_own h1 hr h5, rspan_own h2 (hp.1 hr) h6]
    have := hp.1 hr
    simp only
    rw [if_neg (by omega)]
    rw [show a.t + a.r - a.t = a.r by omega, show a.l + a.c - a.l = a.c by omega]
  · have := hz (by omega)
    subst this
    unfold clipF rspanF zeroR
    simp
theorem clip_zero {a : Rc} {R C : Int} (hR : 0 ≤ R) (hC : 0 ≤ C) : (clipF a R C).r = 0 → clipF a R C = zeroR := by
  unfold clipF
  split
  · intro _; rfl
  · intro h; simp only at h; omega
end Go.Proofs.Ytklnbkacnghdnaa.Run
