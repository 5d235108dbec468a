/- What copies, fills and erasures make of each other: plain Lean. -/
import Derived.Test.YtklnbkacnghdnaaRectB
import Derived.Test.YtklnbkacnghdnaaRowPB
namespace Go.Proofs.Ytklnbkacnghdnaa.Run
open Go Go.RowKit
set_option linter.unusedVariables false
set_option linter.unusedSimpArgs false
theorem getD_some {G : Gd} {i : Nat} {L : List Ce} (h : G[i]? = some L) : G.getD i [] = L := by rw [List.getD_eq_getElem?_getD, h]; rfl
theorem rspan_own {f n m : Int} (h0 : 0 ≤ f) (hn : 0 < n) (hm : f + n ≤ m) : rspanF f n m = (f, f + n) := by
  unfold rspanF
  repeat' split
  all_goals first | omega | (apply Prod.ext <;> simp only <;> omega)
theorem clip_own {a : Rc} {R C : Int} (h : a.within R C) (hp : (0 < a.r ↔ 0 < a.c)) (hz : a.r = 0 → a = zeroR) : clipF a R C = a := by
  obtain ⟨h1, h2, h3, h4, h5, h6⟩ := h
  by_cases hr : 0 < a.r
  · unfold clipF
    rw [rspan_own h1 hr h5, rspan_own h2 (hp.1 hr) h6]
    have := hp.1 hr
    simp only
    rw [if_neg (by omega)]
    rw [show a.t + a.r - a.t = a.r by omega, show a.l + a.c - a.l = a.c by omega]
  · have := hz (by omega)
    subst this
    unfold clipF rspanF zeroR
    simp
theorem clip_zero {a : Rc} {R C : Int} (hR : 0 ≤ R) (hC : 0 ≤ C) : (clipF a R C).r = 0 → clipF a R C = zeroR := by
  unfold clipF
  split
  · intro _; rfl
  · intro h; simp only at h; omega
end Go.Proofs.Ytklnbkacnghdnaa.Run
