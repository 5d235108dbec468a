/- What the small functions of chapter 26 do: contracts over the calculus. -/
import Derived.Test.YtacabjkhhejjcaaVc
import Derived.Test.YtacabjkhhejjcaaSpec
namespace Go.Proofs.Ytacabjkhhejjcaa.Run
open Go Go.RowKit
set_option linter.unusedVariables false
set_option linter.unusedSimpArgs false

def I64 (x : Int) : Prop := -9223372036854775808 ≤ x ∧ x ≤ 9223372036854775807

/-- a rectangle -/
structure Rc where
  t : Int
  l : Int
  r : Int
  c : Int
deriving DecidableEq

instance : Enc Rc := ⟨4, fun a => [.int .i64 a.t, .int .i64 a.l, .int .i64 a.r, .int .i64 a.c], fun _ => rfl, by decide⟩
def Rc.ok (a : Rc) : Prop := I64 a.t ∧ I64 a.l ∧ I64 a.r ∧ I64 a.c
abbrev Rc.val (a : Rc) : Value := .agg #[.int .i64 a.t, .int .i64 a.l, .int .i64 a.r, .int .i64 a.c]

def screenF (R C : Int) : Bool := decide (2 ≤ R ∧ R ≤ 512 ∧ 1 ≤ C ∧ C ≤ 512)
def spanF (a n b m : Int) : Bool := decide (0 < n ∧ 0 < m ∧ a < b + m ∧ b < a + n)
def rspanF (f n most : Int) : Int × Int := if n ≤ 0 ∨ most ≤ f then (0, 0) else if f < 0 ∨ n < most - f then (max 0 f, max 0 (min most (f + n))) else (max 0 f, max 0 most)
def clipF (a : Rc) (R C : Int) : Rc :=
  if (rspanF a.t a.r R).2 ≤ (rspanF a.t a.r R).1 ∨ (rspanF a.l a.c C).2 ≤ (rspanF a.l a.c C).1 then ⟨0, 0, 0, 0⟩
  else ⟨(rspanF a.t a.r R).1, (rspanF a.l a.c C).1, (rspanF a.t a.r R).2 - (rspanF a.t a.r R).1, (rspanF a.l a.c C).2 - (rspanF a.l a.c C).1⟩
def inF (R C : Int) (a : Rc) : Bool := decide ((2 ≤ R ∧ R ≤ 512 ∧ 1 ≤ C ∧ C ≤ 512) ∧ 1 ≤ a.t ∧ 0 ≤ a.l ∧ 1 ≤ a.r ∧ 1 ≤ a.c ∧ a.t + a.r ≤ R ∧ a.l + a.c ≤ C)
/-- a place lies in it -/
def hasF (a : Rc) (i k : Int) : Bool := decide (0 < a.r ∧ 0 < a.c ∧ a.t ≤ i ∧ i < a.t + a.r ∧ a.l ≤ k ∧ k < a.l + a.c)
def meetF (a b : Rc) : Bool := spanF a.t a.r b.t b.r && spanF a.l a.c b.l b.c

section
variable {M : Mem} {Q : Value → Mem → Prop}
theorem screen_W (hM : M.base ≤ M.size) {R C : Int} (q : Q (.bool (screenF R C)) M) : W funs known (.func (.func n_pane_screen) #[] #[]) [.int .i64 R, .int .i64 C] M Q := by
  refine pane_screen_wp hM ?_
  repeat' (first | refine step_gtr ?_ | refine step_lss ?_ | refine step_leq ?_ | refine step_geq ?_ | refine step_eql ?_ | refine step_neq ?_ | refine step_not ?_ | refine wpIf.dec (fun _ => ?_) (fun _ => ?_) | refine wpIf.tt ?_ | refine wpIf.ff ?_ | refine step_add (by omega) (by omega) ?_ | refine step_sub (by omega) (by omega) ?_ | refine step_max ?_ | refine step_min ?_)
  all_goals refine q_of q ?_
  all_goals unfold screenF
  all_goals first | exact decide_eq_decide.2 (by omega) | exact decide_eq_false (by omega) | exact decide_eq_true (by omega)
theorem rscreen_W (hM : M.base ≤ M.size) {R C : Int} (q : Q (.bool (screenF R C)) M) : W funs known (.func (.func n_ref26_Screen) #[] #[]) [.int .i64 R, .int .i64 C] M Q := by
  refine ref26_Screen_wp hM ?_
  repeat' (first | refine step_gtr ?_ | refine step_lss ?_ | refine step_leq ?_ | refine step_geq ?_ | refine step_eql ?_ | refine step_neq ?_ | refine step_not ?_ | refine wpIf.dec (fun _ => ?_) (fun _ => ?_) | refine wpIf.tt ?_ | refine wpIf.ff ?_ | refine step_add (by omega) (by omega) ?_ | refine step_sub (by omega) (by omega) ?_ | refine step_max ?_ | refine step_min ?_)
  all_goals refine q_of q ?_
  all_goals unfold screenF
  all_goals first | exact decide_eq_decide.2 (by omega) | exact decide_eq_false (by omega) | exact decide_eq_true (by omega)

theorem wrap_u64 (x : Int) : IntKind.u64.wrap x = x % 18446744073709551616 := rfl
theorem step_u64span {x y m : Int} {P : Value → Prop} (hx : I64 x) (hy : I64 y) (hm : I64 m) (h : y ≤ x) (h0 : 0 < m) (p : P (.bool (decide (x - y < m)))) :
    ∃ v4, opSem (.convI .u64 (.const (.int .i64 x))) [] M = some (v4, M) ∧ ∃ v5, opSem (.convI .u64 (.const (.int .i64 y))) [] M = some (v5, M) ∧ ∃ v6, binV .sub 0 [] v4 v5 = some v6 ∧
      ∃ v7, opSem (.convI .u64 (.const (.int .i64 m))) [] M = some (v7, M) ∧ ∃ v8, binV .lss 0 [] v6 v7 = some v8 ∧ P v8 := by
  refine ⟨.int .u64 (IntKind.u64.wrap x), by simp only [opSem, ev], .int .u64 (IntKind.u64.wrap y), by simp only [opSem, ev], .int .u64 (IntKind.u64.wrap (IntKind.u64.wrap x - IntKind.u64.wrap y)), rfl, .int .u64 (IntKind.u64.wrap m), by simp only [opSem, ev], ?_⟩
  refine step_lss ?_
  have : (IntKind.u64.wrap (IntKind.u64.wrap x - IntKind.u64.wrap y) < IntKind.u64.wrap m) = (x - y < m) := by
    simp only [wrap_u64]
    unfold I64 at hx hy hm
    apply propext
    omega
  simp only [this]
  exact p

theorem span_W (hM : M.base ≤ M.size) {a n b m : Int} (ha : I64 a) (hn : I64 n) (hb : I64 b) (hm : I64 m) (q : Q (.bool (spanF a n b m)) M) : W funs known (.func (.func n_pane_span) #[] #[]) [.int .i64 a, .int .i64 n, .int .i64 b, .int .i64 m] M Q := by
  refine pane_span_wp hM ?_
  repeat' (first | refine step_gtr ?_ | refine wpIf.dec (fun _ => ?_) (fun _ => ?_) | refine step_u64span (by assumption) (by assumption) (by assumption) (by omega) (by omega) ?_)
  all_goals refine q_of q ?_
  all_goals unfold spanF
  all_goals first | exact decide_eq_decide.2 (by omega) | exact decide_eq_false (by omega) | exact decide_eq_true (by omega)

theorem t2_of {x y x' y' : Int} (q : Q (.tuple #[.int .i64 x', .int .i64 y']) M) (h : (x', y') = (x, y)) : Q (.tuple #[.int .i64 x, .int .i64 y]) M := by
  cases h; exact q

theorem rspan_W (hM : M.base ≤ M.size) {f n m : Int} (hf : I64 f) (hn : I64 n) (hm : I64 m) (q : Q (.tuple #[.int .i64 (rspanF f n m).1, .int .i64 (rspanF f n m).2]) M) : W funs known (.func (.func n_rect_span) #[] #[]) [.int .i64 f, .int .i64 n, .int .i64 m] M Q := by
  refine rect_span_wp hM ?_
  unfold I64 at hf hn hm
  repeat' (first | refine step_gtr ?_ | refine step_lss ?_ | refine step_leq ?_ | refine step_geq ?_ | refine step_eql ?_ | refine step_neq ?_ | refine step_not ?_ | refine wpIf.dec (fun _ => ?_) (fun _ => ?_) | refine wpIf.tt ?_ | refine wpIf.ff ?_ | refine step_add (by omega) (by omega) ?_ | refine step_sub (by omega) (by omega) ?_ | refine step_max ?_ | refine step_min ?_)
  all_goals refine t2_of q ?_
  all_goals unfold rspanF
  all_goals repeat' split
  all_goals first | rfl | (exfalso; omega)

theorem rspan_ok {f n m : Int} (hf : I64 f) (hn : I64 n) (hm : I64 m) : 0 ≤ (rspanF f n m).1 ∧ 0 ≤ (rspanF f n m).2 ∧ (rspanF f n m).1 ≤ 9223372036854775807 ∧ (rspanF f n m).2 ≤ 9223372036854775807 := by
  unfold I64 at hf hn hm
  unfold rspanF
  repeat' split
  all_goals simp only
  all_goals omega

theorem clip_W (hM : M.base ≤ M.size) {a : Rc} (ha : a.ok) {R C : Int} (hR : I64 R) (hC : I64 C) (q : ∀ M', Ext M M' → Q (clipF a R C).val M') : W funs known (.func (.func n_rect_Clip) #[] #[]) [a.val, .int .i64 R, .int .i64 C] M Q := by
  obtain ⟨h1, h2, h3, h4⟩ := ha
  have o1 := rspan_ok h1 h3 hR
  have o2 := rspan_ok h2 h4 hC
  refine rect_Clip_wp hM ⟨rfl, fun b1 M2 hb1 hM2 => ⟨rfl, fun b3 M4 hb3 hM4 => ?_⟩⟩
  have e4 : Ext M M4 := (Ext.push' hM2).trans (Ext.push' hM4)
  have s2 : M2.size = M.size + 1 := by rw [hM2]; rfl
  have s4 : M4.size = M2.size + 1 := by rw [hM4]; rfl
  refine rspan_W (e4.ok hM) h1 h3 hR ⟨KeepB.refl _ _, _, rfl, _, rfl, rspan_W (e4.ok hM) h2 h4 hC ⟨KeepB.refl _ _, _, rfl, _, rfl, ?_⟩⟩
  refine step_leq (wpIf.dec (fun c => ?_) (fun c => step_leq (wpIf.dec (fun c' => ?_) (fun c' => ?_))))
  · refine ⟨_, rfl, ⟨rfl, rfl, by decide⟩, fun M5 hM5 => LGetN.as (Rc.val ⟨0, 0, 0, 0⟩) (by decide) rfl ?_⟩
    have : clipF a R C = ⟨0, 0, 0, 0⟩ := by unfold clipF; rw [if_pos (.inl c)]
    rw [← this]
    exact q _ (hM5 ▸ e4.set (by omega) (by omega) _)
  · refine ⟨_, rfl, ⟨rfl, rfl, by decide⟩, fun M5 hM5 => LGetN.as (Rc.val ⟨0, 0, 0, 0⟩) (by decide) rfl ?_⟩
    have : clipF a R C = ⟨0, 0, 0, 0⟩ := by unfold clipF; rw [if_pos (.inr c')]
    rw [← this]
    exact q _ (hM5 ▸ e4.set (by omega) (by omega) _)
  · refine step_sub (by omega) (by omega) (step_sub (by omega) (by omega) ⟨_, rfl, ⟨rfl, rfl, by decide⟩, fun M5 hM5 => LGetN.as (clipF a R C).val (by exact Nat.le_refl 4) ?_ (q _ (hM5 ▸ e4.set (by omega) (by omega) _))⟩)
    unfold clipF
    rw [if_neg (by omega)]
    rfl

theorem rin_W (hM : M.base ≤ M.size) {a : Rc} (ha : a.ok) {R C : Int} (q : ∀ M', Ext M M' → Q (.bool (inF R C a)) M') : W funs known (.func (.func n_ref26_Inside) #[] #[]) [.int .i64 R, .int .i64 C, a.val] M Q := by
  obtain ⟨h1, h2, h3, h4⟩ := ha
  unfold I64 at h1 h2 h3 h4
  refine ref26_Inside_wp hM ⟨rfl, fun b1 M2 hb1 hM2 => ?_⟩
  have e2 : Ext M M2 := Ext.push' hM2
  refine rscreen_W (e2.ok hM) ⟨KeepB.refl _ _, wpIf.mk (fun hs => ?_) (fun hs => ?_)⟩
  · have hs' := of_decide_eq_true hs
    repeat' (first | refine step_gtr ?_ | refine step_lss ?_ | refine step_leq ?_ | refine step_geq ?_ | refine step_eql ?_ | refine step_neq ?_ | refine step_not ?_ | refine wpIf.dec (fun _ => ?_) (fun _ => ?_) | refine wpIf.tt ?_ | refine wpIf.ff ?_ | refine step_add (by omega) (by omega) ?_ | refine step_sub (by omega) (by omega) ?_ | refine step_max ?_ | refine step_min ?_)
    all_goals refine q_of (q _ e2) ?_
    all_goals unfold inF
    all_goals first | exact decide_eq_decide.2 (by omega) | exact decide_eq_false (by omega) | exact decide_eq_true (by omega)
  · have hs' := of_decide_eq_false hs
    refine q_of (q _ e2) ?_
    unfold inF
    exact decide_eq_false (by omega)

theorem has_W (hM : M.base ≤ M.size) {a : Rc} (ha : a.ok) {i k : Int} (hi : 0 ≤ i ∧ i < 512) (hk : 0 ≤ k ∧ k < 512) (q : ∀ M', Ext M M' → Q (.bool (hasF a i k)) M') : W funs known (.func (.func n_ref26_Has) #[] #[]) [a.val, .agg #[.int .i64 i, .int .i64 k]] M Q := by
  obtain ⟨h1, h2, h3, h4⟩ := ha
  unfold I64 at h1 h2 h3 h4
  refine ref26_Has_wp hM ⟨rfl, fun b1 M2 hb1 hM2 => ⟨rfl, fun b3 M4 hb3 hM4 => ?_⟩⟩
  have e4 : Ext M M4 := (Ext.push' hM2).trans (Ext.push' hM4)
  repeat' (first | refine step_gtr ?_ | refine step_lss ?_ | refine step_leq ?_ | refine step_geq ?_ | refine step_eql ?_ | refine step_neq ?_ | refine step_not ?_ | refine wpIf.dec (fun _ => ?_) (fun _ => ?_) | refine wpIf.tt ?_ | refine wpIf.ff ?_ | refine step_add (by omega) (by omega) ?_ | refine step_sub (by omega) (by omega) ?_ | refine step_max ?_ | refine step_min ?_)
  all_goals refine q_of (q _ e4) ?_
  all_goals unfold hasF
  all_goals first | exact decide_eq_decide.2 (by omega) | exact decide_eq_false (by omega) | exact decide_eq_true (by omega)
end
end Go.Proofs.Ytacabjkhhejjcaa.Run
