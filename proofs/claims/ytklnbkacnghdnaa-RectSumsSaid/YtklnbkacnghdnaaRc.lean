/- What is done to a rectangle of a grid: erased, filled, copied. -/
import Derived.Test.YtklnbkacnghdnaaGridB
import Derived.Test.YtklnbkacnghdnaaVcR
namespace Go.Proofs.Ytklnbkacnghdnaa.Run
open Go Go.RowKit
set_option linter.unusedVariables false
set_option linter.unusedSimpArgs false
abbrev nilV : Value := .slice none 0 0
def I64 (x : Int) : Prop := -9223372036854775808 ≤ x ∧ x ≤ 9223372036854775807
structure Rc where
  t : Int
  l : Int
  r : Int
  c : Int
deriving DecidableEq
instance : Enc Rc := ⟨4, fun a => [.int .i64 a.t, .int .i64 a.l, .int .i64 a.r, .int .i64 a.c], fun _ => rfl, by decide⟩
def Rc.ok (a : Rc) : Prop := I64 a.t ∧ I64 a.l ∧ I64 a.r ∧ I64 a.c
abbrev Rc.val (a : Rc) : Value := .agg #[.int .i64 a.t, .int .i64 a.l, .int .i64 a.r, .int .i64 a.c]
def rspanF (f n most : Int) : Int × Int := if n ≤ 0 ∨ most ≤ f then (0, 0) else if f < 0 ∨ n < most - f then (max 0 f, max 0 (min most (f + n))) else (max 0 f, max 0 most)
def clipF (a : Rc) (R C : Int) : Rc :=
  if (rspanF a.t a.r R).2 ≤ (rspanF a.t a.r R).1 ∨ (rspanF a.l a.c C).2 ≤ (rspanF a.l a.c C).1 then ⟨0, 0, 0, 0⟩
  else ⟨(rspanF a.t a.r R).1, (rspanF a.l a.c C).1, (rspanF a.t a.r R).2 - (rspanF a.t a.r R).1, (rspanF a.l a.c C).2 - (rspanF a.l a.c C).1⟩
structure Rc.within (a : Rc) (R C : Int) : Prop where
  t : 0 ≤ a.t
  l : 0 ≤ a.l
  r : 0 ≤ a.r
  c : 0 ≤ a.c
  b : a.t + a.r ≤ R
  e : a.l + a.c ≤ C
theorem rspan_in {f n m : Int} (hm : 0 ≤ m) : 0 ≤ (rspanF f n m).1 ∧ 0 ≤ (rspanF f n m).2 ∧ (rspanF f n m).2 ≤ m := by
  unfold rspanF
  repeat' split
  all_goals simp only
  all_goals omega
theorem clip_within {a : Rc} {R C : Int} (hR : 0 ≤ R) (hC : 0 ≤ C) : (clipF a R C).within R C := by
  have h1 := rspan_in (f := a.t) (n := a.r) hR
  have h2 := rspan_in (f := a.l) (n := a.c) hC
  unfold clipF
  split
  · exact ⟨by simp, by simp, by simp, by simp, by simpa using hR, by simpa using hC⟩
  · exact ⟨by simp only; omega, by simp only; omega, by simp only; omega, by simp only; omega, by simp only; omega, by simp only; omega⟩
section
variable {M : Mem} {Q : Value → Mem → Prop}
theorem t2_of {x y x' y' : Int} (q : Q (.tuple #[.int .i64 x', .int .i64 y']) M) (h : (x', y') = (x, y)) : Q (.tuple #[.int .i64 x, .int .i64 y]) M := by
  cases h; exact q
theorem rspan_W (hM : M.base ≤ M.size) {f n m : Int} (hf : I64 f) (hn : I64 n) (hm : I64 m) (q : Q (.tuple #[.int .i64 (rspanF f n m).1, .int .i64 (rspanF f n m).2]) M) : W funs known (.func (.func n_rect_span) #[] #[]) [.int .i64 f, .int .i64 n, .int .i64 m] M Q := by
  refine rect_span_wp hM ?_
  unfold I64 at hf hn hm
  repeat' (first | refine step_gtr ?_ | refine step_lss ?_ | refine step_leq ?_ | refine step_geq ?_ | refine step_eql ?_ | refine step_neq ?_ | refine step_not ?_ | refine wpIf.dec (fun _ => ?_) (fun _ => ?_) | refine wpIf.tt ?_ | refine wpIf.ff ?_ | refine step_add (by omega) (by omega) ?_ | refine step_sub (by omega) (by omega) ?_ | refine step_max ?_ | refine step_min ?_)
  all_goals refine t2_of q ?_
  all_goals unfold rspanF
  all_goals repeat' split
  all_goals first | rfl | (exfalso; omega)
theorem rspan_ok {f n m : Int} (hf : I64 f) (hn : I64 n) (hm : I64 m) : 0 ≤ (rspanF f n m).1 ∧ 0 ≤ (rspanF f n m).2 ∧ (rspanF f n m).1 ≤ 9223372036854775807 ∧ (rspanF f n m).2 ≤ 9223372036854775807 := by
  unfold I64 at hf hn hm
  unfold rspanF
  repeat' split
  all_goals simp only
  all_goals omega
theorem clip_W (hM : M.base ≤ M.size) {a : Rc} (ha : a.ok) {R C : Int} (hR : I64 R) (hC : I64 C) (q : ∀ M', Ext M M' → Q (clipF a R C).val M') : W funs known (.func (.func n_rect_Clip) #[] #[]) [a.val, .int .i64 R, .int .i64 C] M Q := by
  obtain ⟨h1, h2, h3, h4⟩ := ha
  have o1 := rspan_ok h1 h3 hR
  have o2 := rspan_ok h2 h4 hC
  refine rect_Clip_wp hM ⟨rfl, fun b1 M2 hb1 hM2 => ⟨rfl, fun b3 M4 hb3 hM4 => ?_⟩⟩
  have e4 : Ext M M4 := (Ext.push' hM2).trans (Ext.push' hM4)
  have s2 : M2.size = M.size + 1 := by rw [hM2]; rfl
  have s4 : M4.size = M2.size + 1 := by rw [hM4]; rfl
  refine rspan_W (e4.ok hM) h1 h3 hR ⟨KeepB.refl _ _, _, rfl, _, rfl, rspan_W (e4.ok hM) h2 h4 hC ⟨KeepB.refl _ _, _, rfl, _, rfl, ?_⟩⟩
  refine step_leq (wpIf.dec (fun c => ?_) (fun c => step_leq (wpIf.dec (fun c' => ?_) (fun c' => ?_))))
  · refine ⟨_, rfl, ⟨rfl, rfl, by decide⟩, fun M5 hM5 => LGetN.as (Rc.val ⟨0, 0, 0, 0⟩) (by decide) rfl ?_⟩
    have : clipF a R C = ⟨0, 0, 0, 0⟩ := by unfold clipF; rw [if_pos (.inl c)]
    rw [← this]
    exact q _ (hM5 ▸ e4.set (by omega) (by omega) _)
  · refine ⟨_, rfl, ⟨rfl, rfl, by decide⟩, fun M5 hM5 => LGetN.as (Rc.val ⟨0, 0, 0, 0⟩) (by decide) rfl ?_⟩
    have : clipF a R C = ⟨0, 0, 0, 0⟩ := by unfold clipF; rw [if_pos (.inr c')]
    rw [← this]
    exact q _ (hM5 ▸ e4.set (by omega) (by omega) _)
  · refine step_sub (by omega) (by omega) (step_sub (by omega) (by omega) ⟨_, rfl, ⟨rfl, rfl, by decide⟩, fun M5 hM5 => LGetN.as (clipF a R C).val (by exact Nat.le_refl 4) ?_ (q _ (hM5 ▸ e4.set (by omega) (by omega) _))⟩)
    unfold clipF
    rw [if_neg (by omega)]
    rfl
end
end Go.Proofs.Ytklnbkacnghdnaa.Run
namespace Go.Proofs.Ytklnbkacnghdnaa.Run
open Go Go.RowKit
set_option linter.unusedVariables false
set_option linter.unusedSimpArgs false
section
variable {M : Mem} {b : Nat} {c : List Value} {ty : TypeId} {w : Bool} {P : Value → Prop}
theorem pt_ld {o : Nat} {x : Value} (h : M.get b = some (.cells c ty w)) (hx : c[o]? = some x) (p : P x) : ∃ v, opSem (.load none (.const (.pointer (some ⟨b, o, none⟩)))) [] M = some (v, M) ∧ P v := by
  refine ⟨x, ?_, p⟩
  simp only [opSem, ev, Mem.load1, h, hx, Option.map_some]
end
theorem wrG {M₀ M : Mem} (e : Ext M₀ M) (hb : M₀.base ≤ M₀.size) {ty : TypeId} {v : Value} {R : List Vl} (h : New ty M₀ M v R) {i : Nat} (hi : i < R.length) {x : Value} (hx1 : x.cells.toList = [x]) (hx2 : notTup x = true) {j : IntKind} :
    ∃ p, opSem (.addrL 1 (.const v) (.const (.int j (i : Int)))) [] M = some (p, M) ∧ ∃ u M', opSem (.store 1 (.const p) (.const x)) [] M = some (u, M') ∧ Ext M₀ M' ∧ New ty M₀ M' v (R.set i ⟨x⟩) ∧ ∀ c, c < M.size → blk v ≠ some c → M'.get c = M.get c := by
  obtain ⟨b, sp, rfl, h1, h2⟩ := h
  have hbs := Mem.lt_of_get h1
  have eb := e.base
  refine ⟨.pointer (some ⟨b, 0 + i * 1, none⟩), ?_, undef, M.set b (.cells (flat (R.set i ⟨x⟩)) ty true), ?_, e.set h2 hbs _, ⟨b, sp, by rw [List.length_set], by rw [Mem.get_set _ _ _ hbs, if_pos rfl], h2⟩, fun c hc hne => ?_⟩
  · simp only [opSem, ev]
    rw [if_pos ⟨by omega, by omega⟩, Int.toNat_natCast]
  · have hsz : x.cells.size = 1 := by have := congrArg List.length hx1; simpa using this
    have hput : splice (flat R) (0 + i * 1) [x] = flat (R.set i ⟨x⟩) := by
      have := flat_put (E := inferInstance) (L := R) (i := i) (a := R[i]) (a' := (⟨x⟩ : Vl)) (List.getElem?_eq_getElem hi) (f := 0) (vs := [x]) (Nat.le_refl 1) rfl
      rw [Nat.zero_add]; exact this
    have hlen : (flat R).length = R.length * 1 := flat_len R
    have : M.storeQ b (0 + i * 1) [x] = some (M.set b (.cells (flat (R.set i ⟨x⟩)) ty true)) := by
      simp only [Mem.storeQ, Mem.storeN, h1]
      rw [if_pos ⟨by omega, by rw [hlen, List.length_singleton]; omega⟩, hput]
    simp only [opSem, ev, hsz, hx2, hx1, and_self, if_true, this, Option.map_some]
  · rw [Mem.get_set _ _ _ hbs, if_neg]
    intro hcb; exact hne (by simp [blk, hcb])
section
variable {M : Mem} {Q : Value → Mem → Prop}
def Part (M₀ M : Mem) (v : Value) (G : Gd) (n : Nat) : Prop := ∃ P : Parts, New 36 M₀ M v (P.row ++ List.replicate (n - P.length) ⟨nilV⟩) ∧ P.length ≤ n ∧ (∀ p ∈ P, Mine 50 M₀ M p.1 p.2) ∧ P.map (·.2) = G
theorem Part.ext {M₀ M M' : Mem} (e : Ext M M') {v : Value} {G : Gd} {n : Nat} (h : Part M₀ M v G n) : Part M₀ M' v G n := by
  obtain ⟨P, h1, h2, h3, h4⟩ := h
  exact ⟨P, h1.ext e, h2, fun p hp => (h3 p hp).ext e, h4⟩
theorem Part.put {M₀ M : Mem} (e : Ext M₀ M) (hb : M₀.base ≤ M₀.size) {v : Value} {G : Gd} {n : Nat} (h : Part M₀ M v G n) (hlt : G.length < n) {x : Value} {L : List Ce} (hx : Mine 50 M₀ M x L) {i : Nat} (hi : i = G.length) {PM : Value → Mem → Prop}
    (q : ∀ u M', Ext M₀ M' → Part M₀ M' v (G ++ [L]) n → PM u M') : ∃ p, opSem (.addrL 1 (.const v) (.const (.int .i64 (i : Int)))) [] M = some (p, M) ∧ ∃ u M', opSem (.store 1 (.const p) (.const x)) [] M = some (u, M') ∧ PM u M' := by
  obtain ⟨P, h1, h2, h3, h4⟩ := h
  have hPl : P.length = G.length := by rw [← h4]; simp
  have hrow : P.row.length = P.length := by simp
  have hx1 : x.cells.toList = [x] ∧ notTup x = true := by
    obtain ⟨a, cap, rfl⟩ := hx.sl.shape; exact ⟨rfl, rfl⟩
  subst hi
  obtain ⟨p, g1, u, M', g2, g3, g4, g5⟩ := wrG e hb h1 (i := G.length) (by rw [List.length_append, List.length_replicate]; omega) hx1.1 hx1.2 (j := .i64)
  have hset : (P.row ++ List.replicate (n - P.length) (⟨nilV⟩ : Vl)).set G.length ⟨x⟩ = Parts.row (P ++ [(x, L)]) ++ List.replicate (n - (P ++ [(x, L)]).length) ⟨nilV⟩ := by
    rw [List.set_append_right _ _ (by omega), hrow, hPl, Nat.sub_self, show n - G.length = (n - (G.length + 1)) + 1 by omega, List.replicate_succ, List.set_cons_zero]
    have hr2 : Parts.row (P ++ [(x, L)]) = P.row ++ [(⟨x⟩ : Vl)] := by simp [Parts.row]
    rw [hr2, List.length_append, hPl, List.length_singleton, List.append_assoc]; rfl
  rw [hset] at g4
  refine ⟨p, g1, u, M', g2, q u M' g3 ⟨P ++ [(x, L)], g4, by rw [List.length_append, List.length_singleton]; omega, fun z hz => ?_, by rw [List.map_append, h4]; rfl⟩⟩
  rcases List.mem_append.1 hz with hz | hz
  · exact mine_keep (.inl h1) (h3 z hz) (by decide) g5
  · rw [List.mem_singleton] at hz; subst hz
    exact mine_keep (.inl h1) hx (by decide) g5
theorem Part.done {M₀ M : Mem} {v : Value} {G : Gd} (h : Part M₀ M v G G.length) : GrN M₀ M v G := by
  obtain ⟨P, h1, h2, h3, h4⟩ := h
  have hPl : P.length = G.length := by rw [← h4]; simp
  refine ⟨P, .inl ?_, h3, h4⟩
  rw [hPl, Nat.sub_self, List.replicate_zero, List.append_nil] at h1
  exact h1
end
end Go.Proofs.Ytklnbkacnghdnaa.Run
