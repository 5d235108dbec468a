/- Rectangles: a span, and one that is clipped. -/
import Derived.Test.YtkelbhcaecojkaaGridB
import Derived.Test.YtkelbhcaecojkaaVcR
namespace Go.Proofs.Ytkelbhcaecojkaa.Run
open Go Go.RowKit
set_option linter.unusedVariables false
set_option linter.unusedSimpArgs false

def I64 (x : Int) : Prop := -9223372036854775808 ≤ x ∧ x ≤ 9223372036854775807

/-- a rectangle -/
structure Rc where
  t : Int
  l : Int
  r : Int
  c : Int
deriving DecidableEq

instance : Enc Rc := ⟨4, fun a => [.int .i64 a.t, .int .i64 a.l, .int .i64 a.r, .int .i64 a.c], fun _ => rfl, by decide⟩
def Rc.ok (a : Rc) : Prop := I64 a.t ∧ I64 a.l ∧ I64 a.r ∧ I64 a.c
abbrev Rc.val (a : Rc) : Value := .agg #[.int .i64 a.t, .int .i64 a.l, .int .i64 a.r, .int .i64 a.c]

def rspanF (f n most : Int) : Int × Int := if n ≤ 0 ∨ most ≤ f then (0, 0) else if f < 0 ∨ n < most - f then (max 0 f, max 0 (min most (f + n))) else (max 0 f, max 0 most)
def clipF (a : Rc) (R C : Int) : Rc :=
  if (rspanF a.t a.r R).2 ≤ (rspanF a.t a.r R).1 ∨ (rspanF a.l a.c C).2 ≤ (rspanF a.l a.c C).1 then ⟨0, 0, 0, 0⟩
  else ⟨(rspanF a.t a.r R).1, (rspanF a.l a.c C).1, (rspanF a.t a.r R).2 - (rspanF a.t a.r R).1, (rspanF a.l a.c C).2 - (rspanF a.l a.c C).1⟩

/-- what is clipped lies within -/
structure Rc.within (a : Rc) (R C : Int) : Prop where
  t : 0 ≤ a.t
  l : 0 ≤ a.l
  r : 0 ≤ a.r
  c : 0 ≤ a.c
  b : a.t + a.r ≤ R
  e : a.l + a.c ≤ C
theorem rspan_in {f n m : Int} (hm : 0 ≤ m) : 0 ≤ (rspanF f n m).1 ∧ 0 ≤ (rspanF f n m).2 ∧ (rspanF f n m).2 ≤ m := by
  unfold rspanF
  repeat' split
  all_goals simp only
  all_goals omega
theorem clip_within {a : Rc} {R C : Int} (hR : 0 ≤ R) (hC : 0 ≤ C) : (clipF a R C).within R C := by
  have h1 := rspan_in (f := a.t) (n := a.r) hR
  have h2 := rspan_in (f := a.l) (n := a.c) hC
  unfold clipF
  split
  · exact ⟨by simp, by simp, by simp, by simp, by simpa using hR, by simpa using hC⟩
  · exact ⟨by simp only; omega, by simp only; omega, by simp only; omega, by simp only; omega, by simp only; omega, by simp only; omega⟩

section
variable {M : Mem} {Q : Value → Mem → Prop}
theorem t2_of {x y x' y' : Int} (q : Q (.tuple #[.int .i64 x', .int .i64 y']) M) (h : (x', y') = (x, y)) : Q (.tuple #[.int .i64 x, .int .i64 y]) M := by
  cases h; exact q

theorem rspan_W (hM : M.base ≤ M.size) {f n m : Int} (hf : I64 f) (hn : I64 n) (hm : I64 m) (q : Q (.tuple #[.int .i64 (rspanF f n m).1, .int .i64 (rspanF f n m).2]) M) : W funs known (.func (.func n_rect_span) #[] #[]) [.int .i64 f, .int .i64 n, .int .i64 m] M Q := by
  refine rect_span_wp hM ?_
  unfold I64 at hf hn hm
  repeat' (first | refine step_gtr ?_ | refine step_lss ?_ | refine step_leq ?_ | refine step_geq ?_ | refine step_eql ?_ | refine step_neq ?_ | refine step_not ?_ | refine wpIf.dec (fun _ => ?_) (fun _ => ?_) | refine wpIf.tt ?_ | refine wpIf.ff ?_ | refine step_add (by omega) (by omega) ?_ | refine step_sub (by omega) (by omega) ?_ | refine step_max ?_ | refine step_min ?_)
  all_goals refine t2_of q ?_
  all_goals unfold rspanF
  all_goals repeat' split
  all_goals first | rfl | (exfalso; omega)

theorem rspan_ok {f n m : Int} (hf : I64 f) (hn : I64 n) (hm : I64 m) : 0 ≤ (rspanF f n m).1 ∧ 0 ≤ (rspanF f n m).2 ∧ (rspanF f n m).1 ≤ 9223372036854775807 ∧ (rspanF f n m).2 ≤ 9223372036854775807 := by
  unfold I64 at hf hn hm
  unfold rspanF
  repeat' split
  all_goals simp only
  all_goals omega

theorem clip_W (hM : M.base ≤ M.size) {a : Rc} (ha : a.ok) {R C : Int} (hR : I64 R) (hC : I64 C) (q : ∀ M', Ext M M' → Q (clipF a R C).val M') : W funs known (.func (.func n_rect_Clip) #[] #[]) [a.val, .int .i64 R, .int .i64 C] M Q := by
  obtain ⟨h1, h2, h3, h4⟩ := ha
  have o1 := rspan_ok h1 h3 hR
  have o2 := rspan_ok h2 h4 hC
  refine rect_Clip_wp hM ⟨rfl, fun b1 M2 hb1 hM2 => ⟨rfl, fun b3 M4 hb3 hM4 => ?_⟩⟩
  have e4 : Ext M M4 := (Ext.push' hM2).trans (Ext.push' hM4)
  have s2 : M2.size = M.size + 1 := by rw [hM2]; rfl
  have s4 : M4.size = M2.size + 1 := by rw [hM4]; rfl
  refine rspan_W (e4.ok hM) h1 h3 hR ⟨KeepB.refl _ _, _, rfl, _, rfl, rspan_W (e4.ok hM) h2 h4 hC ⟨KeepB.refl _ _, _, rfl, _, rfl, ?_⟩⟩
  refine step_leq (wpIf.dec (fun c => ?_) (fun c => step_leq (wpIf.dec (fun c' => ?_) (fun c' => ?_))))
  · refine ⟨_, rfl, ⟨rfl, rfl, by decide⟩, fun M5 hM5 => LGetN.as (Rc.val ⟨0, 0, 0, 0⟩) (by decide) rfl ?_⟩
    have : clipF a R C = ⟨0, 0, 0, 0⟩ := by unfold clipF; rw [if_pos (.inl c)]
    rw [← this]
    exact q _ (hM5 ▸ e4.set (by omega) (by omega) _)
  · refine ⟨_, rfl, ⟨rfl, rfl, by decide⟩, fun M5 hM5 => LGetN.as (Rc.val ⟨0, 0, 0, 0⟩) (by decide) rfl ?_⟩
    have : clipF a R C = ⟨0, 0, 0, 0⟩ := by unfold clipF; rw [if_pos (.inr c')]
    rw [← this]
    exact q _ (hM5 ▸ e4.set (by omega) (by omega) _)
  · refine step_sub (by omega) (by omega) (step_sub (by omega) (by omega) ⟨_, rfl, ⟨rfl, rfl, by decide⟩, fun M5 hM5 => LGetN.as (clipF a R C).val (by exact Nat.le_refl 4) ?_ (q _ (hM5 ▸ e4.set (by omega) (by omega) _))⟩)
    unfold clipF
    rw [if_neg (by omega)]
    rfl

end
end Go.Proofs.Ytkelbhcaecojkaa.Run
