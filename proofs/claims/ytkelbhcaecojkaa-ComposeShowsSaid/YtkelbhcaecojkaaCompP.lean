/- Screens of tiles: what compose.Screen and compose.Only make, and that it is alike to Low if the tiles are. -/
import Derived.Test.YtkelbhcaecojkaaGridB
import Derived.Test.YtkelbhcaecojkaaVcR
import Derived.Test.YtkelbhcaecojkaaLow
namespace Go.Proofs.Ytkelbhcaecojkaa.Run
open Go Go.RowKit
set_option linter.unusedVariables false
set_option linter.unusedSimpArgs false
def I64 (x : Int) : Prop := -9223372036854775808 ≤ x ∧ x ≤ 9223372036854775807
structure Rc where
  t : Int
  l : Int
  r : Int
  c : Int
deriving DecidableEq
instance : Enc Rc := ⟨4, fun a => [.int .i64 a.t, .int .i64 a.l, .int .i64 a.r, .int .i64 a.c], fun _ => rfl, by decide⟩
def Rc.ok (a : Rc) : Prop := I64 a.t ∧ I64 a.l ∧ I64 a.r ∧ I64 a.c
abbrev Rc.val (a : Rc) : Value := .agg #[.int .i64 a.t, .int .i64 a.l, .int .i64 a.r, .int .i64 a.c]
def rspanF (f n most : Int) : Int × Int := if n ≤ 0 ∨ most ≤ f then (0, 0) else if f < 0 ∨ n < most - f then (max 0 f, max 0 (min most (f + n))) else (max 0 f, max 0 most)
def clipF (a : Rc) (R C : Int) : Rc :=
  if (rspanF a.t a.r R).2 ≤ (rspanF a.t a.r R).1 ∨ (rspanF a.l a.c C).2 ≤ (rspanF a.l a.c C).1 then ⟨0, 0, 0, 0⟩
  else ⟨(rspanF a.t a.r R).1, (rspanF a.l a.c C).1, (rspanF a.t a.r R).2 - (rspanF a.t a.r R).1, (rspanF a.l a.c C).2 - (rspanF a.l a.c C).1⟩
structure Rc.within (a : Rc) (R C : Int) : Prop where
  t : 0 ≤ a.t
  l : 0 ≤ a.l
  r : 0 ≤ a.r
  c : 0 ≤ a.c
  b : a.t + a.r ≤ R
  e : a.l + a.c ≤ C
theorem rspan_in {f n m : Int} (hm : 0 ≤ m) : 0 ≤ (rspanF f n m).1 ∧ 0 ≤ (rspanF f n m).2 ∧ (rspanF f n m).2 ≤ m := by
  unfold rspanF
  repeat' split
  all_goals simp only
  all_goals omega
theorem clip_within {a : Rc} {R C : Int} (hR : 0 ≤ R) (hC : 0 ≤ C) : (clipF a R C).within R C := by
  have h1 := rspan_in (f := a.t) (n := a.r) hR
  have h2 := rspan_in (f := a.l) (n := a.c) hC
  unfold clipF
  split
  · exact ⟨by simp, by simp, by simp, by simp, by simpa using hR, by simpa using hC⟩
  · exact ⟨by simp only; omega, by simp only; omega, by simp only; omega, by simp only; omega, by simp only; omega, by simp only; omega⟩
section
variable {M : Mem} {Q : Value → Mem → Prop}
theorem t2_of {x y x' y' : Int} (q : Q (.tuple #[.int .i64 x', .int .i64 y']) M) (h : (x', y') = (x, y)) : Q (.tuple #[.int .i64 x, .int .i64 y]) M := by
  cases h; exact q
theorem rspan_W (hM : M.base ≤ M.size) {f n m : Int} (hf : I64 f) (hn : I64 n) (hm : I64 m) (q : Q (.tuple #[.int .i64 (rspanF f n m).1, .int .i64 (rspanF f n m).2]) M) : W funs known (.func (.func n_rect_span) #[] #[]) [.int .i64 f, .int .i64 n, .int .i64 m] M Q := by
  refine rect_span_wp hM ?_
  unfold I64 at hf hn hm
  repeat' (first | refine step_gtr ?_ | refine step_lss ?_ | refine step_leq ?_ | refine step_geq ?_ | refine step_eql ?_ | refine step_neq ?_ | refine step_not ?_ | refine wpIf.dec (fun _ => ?_) (fun _ => ?_) | refine wpIf.tt ?_ | refine wpIf.ff ?_ | refine step_add (by omega) (by omega) ?_ | refine step_sub (by omega) (by omega) ?_ | refine step_max ?_ | refine step_min ?_)
  all_goals refine t2_of q ?_
  all_goals unfold rspanF
  all_goals repeat' split
  all_goals first | rfl | (exfalso; omega)
theorem rspan_ok {f n m : Int} (hf : I64 f) (hn : I64 n) (hm : I64 m) : 0 ≤ (rspanF f n m).1 ∧ 0 ≤ (rspanF f n m).2 ∧ (rspanF f n m).1 ≤ 9223372036854775807 ∧ (rspanF f n m).2 ≤ 9223372036854775807 := by
  unfold I64 at hf hn hm
  unfold rspanF
  repeat' split
  all_goals simp only
  all_goals omega
theorem clip_W (hM : M.base ≤ M.size) {a : Rc} (ha : a.ok) {R C : Int} (hR : I64 R) (hC : I64 C) (q : ∀ M', Ext M M' → Q (clipF a R C).val M') : W funs known (.func (.func n_rect_Clip) #[] #[]) [a.val, .int .i64 R, .int .i64 C] M Q := by
  obtain ⟨h1, h2, h3, h4⟩ := ha
  have o1 := rspan_ok h1 h3 hR
  have o2 := rspan_ok h2 h4 hC
  refine rect_Clip_wp hM ⟨rfl, fun b1 M2 hb1 hM2 => ⟨rfl, fun b3 M4 hb3 hM4 => ?_⟩⟩
  have e4 : Ext M M4 := (Ext.push' hM2).trans (Ext.push' hM4)
  have s2 : M2.size = M.size + 1 := by rw [hM2]; rfl
  have s4 : M4.size = M2.size + 1 := by rw [hM4]; rfl
  refine rspan_W (e4.ok hM) h1 h3 hR ⟨KeepB.refl _ _, _, rfl, _, rfl, rspan_W (e4.ok hM) h2 h4 hC ⟨KeepB.refl _ _, _, rfl, _, rfl, ?_⟩⟩
  refine step_leq (wpIf.dec (fun c => ?_) (fun c => step_leq (wpIf.dec (fun c' => ?_) (fun c' => ?_))))
  · refine ⟨_, rfl, ⟨rfl, rfl, by decide⟩, fun M5 hM5 => LGetN.as (Rc.val ⟨0, 0, 0, 0⟩) (by decide) rfl ?_⟩
    have : clipF a R C = ⟨0, 0, 0, 0⟩ := by unfold clipF; rw [if_pos (.inl c)]
    rw [← this]
    exact q _ (hM5 ▸ e4.set (by omega) (by omega) _)
  · refine ⟨_, rfl, ⟨rfl, rfl, by decide⟩, fun M5 hM5 => LGetN.as (Rc.val ⟨0, 0, 0, 0⟩) (by decide) rfl ?_⟩
    have : clipF a R C = ⟨0, 0, 0, 0⟩ := by unfold clipF; rw [if_pos (.inr c')]
    rw [← this]
    exact q _ (hM5 ▸ e4.set (by omega) (by omega) _)
  · refine step_sub (by omega) (by omega) (step_sub (by omega) (by omega) ⟨_, rfl, ⟨rfl, rfl, by decide⟩, fun M5 hM5 => LGetN.as (clipF a R C).val (by exact Nat.le_refl 4) ?_ (q _ (hM5 ▸ e4.set (by omega) (by omega) _))⟩)
    unfold clipF
    rw [if_neg (by omega)]
    rfl
end
end Go.Proofs.Ytkelbhcaecojkaa.Run
namespace Go.Proofs.Ytkelbhcaecojkaa.Run
open Go Go.RowKit
set_option linter.unusedVariables false
set_option linter.unusedSimpArgs false
structure Tl where
  r : Rc
  v : Value
instance : Enc Tl := ⟨5, fun a => [.int .i64 a.r.t, .int .i64 a.r.l, .int .i64 a.r.r, .int .i64 a.r.c, a.v], fun _ => rfl, by decide⟩
abbrev Tls := List (Tl × Gd)
abbrev Tls.row (T : Tls) : List Tl := T.map (·.1)
def layF (L own : List Ce) (x f n : Int) : List Ce :=
  if min n (own.length - f) ≤ 0 then L else
  (brk2 L x (x + min n (own.length - f))).take x.toNat ++ ((brk2 own f (f + min n (own.length - f))).drop f.toNat).take (min n (own.length - f)).toNat ++ (brk2 L x (x + min n (own.length - f))).drop (x.toNat + (min n (own.length - f)).toNat)
theorem layF_len {L own : List Ce} {x f n : Int} (h : 0 ≤ x ∧ 0 ≤ f ∧ x + n ≤ L.length) : (layF L own x f n).length = L.length := by
  unfold layF
  split
  · rfl
  · simp only [List.length_append, List.length_take, List.length_drop, brk2_len]
    omega
theorem layF_wh {L own : List Ce} {x f n : Int} (h : 0 ≤ x ∧ 0 ≤ f ∧ x + n ≤ L.length) (w : Wh L) (u : Wh own) : Wh (layF L own x f n) := by
  unfold layF
  split
  · exact w
  rename_i hm
  generalize hmd : min n ((own.length : Int) - f) = m at hm
  have hB : ∀ j, cutF (Run.brk2 L x (x + m)) j = true → j ≠ x.toNat ∧ j ≠ x.toNat + m.toNat := fun j hj => by
    have := brk2_cut _ _ _ hj
    rw [clampN_of (by omega) (by omega), clampN_of (by omega) (by omega)] at this
    exact ⟨this.1, fun e => this.2 (by omega)⟩
  have hT : ∀ j, cutF (Run.brk2 own f (f + m)) j = true → j ≠ f.toNat ∧ j ≠ (f + m).toNat := fun j hj => by
    have := brk2_cut _ _ _ hj
    rw [clampN_of (by omega) (by omega), clampN_of (by omega) (by omega)] at this
    exact this
  have wB := w.brk2 x (x + m)
  have wT := u.brk2 f (f + m)
  have e : ((Run.brk2 own f (f + m)).drop f.toNat).take m.toNat = ((Run.brk2 own f (f + m)).take (f + m).toNat).drop f.toNat := by
    rw [List.drop_take]; congr 1; omega
  rw [e]
  exact ((wB.take fun hc => (hB _ hc).1 rfl).append ((wT.take fun hc => (hT _ hc).2 rfl).drop fun hc => (hT _ (cut_take hc)).1 rfl)).append (wB.drop fun hc => (hB _ hc).2 rfl)
theorem layF_lb {L own : List Ce} {x f n : Int} (h : Lb L) (k : Lb own) : Lb (layF L own x f n) := by
  unfold layF
  split
  · exact h
  · exact (((h.brk2 _ _).take _).append (((k.brk2 _ _).drop _).take _)).append ((h.brk2 _ _).drop _)
def tileTo (R C : Int) (a : Tl × Gd) (n : Int) (G : Gd) : Gd := G.mapIdx fun i L => if max 1 (clipF a.1.r R C).t ≤ i ∧ (i : Int) < (clipF a.1.r R C).t + (clipF a.1.r R C).r ∧ (i : Int) - a.1.r.t < a.2.length ∧ (i : Int) < n then layF L (a.2.getD ((i : Int) - a.1.r.t).toNat []) (clipF a.1.r R C).l ((clipF a.1.r R C).l - a.1.r.l) (clipF a.1.r R C).c else L
def tileF (R C : Int) (a : Tl × Gd) (G : Gd) : Gd := tileTo R C a R G
def screen0 (R C : Nat) (banner : List Ce) : Gd := resizeF banner C zeroC :: List.replicate (R - 1) (List.replicate C zeroC)
def screenF (R C : Nat) (banner : List Ce) (T : Tls) : Gd := T.foldl (fun G a => tileF R C a G) (screen0 R C banner)
theorem tileTo_get (R C : Int) (a : Tl × Gd) (n : Int) (G : Gd) (i : Nat) : (tileTo R C a n G)[i]? = (G[i]?).map fun L => if max 1 (clipF a.1.r R C).t ≤ i ∧ (i : Int) < (clipF a.1.r R C).t + (clipF a.1.r R C).r ∧ (i : Int) - a.1.r.t < a.2.length ∧ (i : Int) < n then layF L (a.2.getD ((i : Int) - a.1.r.t).toNat []) (clipF a.1.r R C).l ((clipF a.1.r R C).l - a.1.r.l) (clipF a.1.r R C).c else L := by unfold tileTo; rw [List.getElem?_mapIdx]
theorem tileTo_len (R C : Int) (a : Tl × Gd) (n : Int) (G : Gd) : (tileTo R C a n G).length = G.length := by unfold tileTo; simp
theorem rspan_ge {f n m : Int} (h : (rspanF f n m).1 < (rspanF f n m).2) : f ≤ (rspanF f n m).1 := by
  unfold rspanF at *
  split
  · rename_i hc; rw [if_pos hc] at h; simp only at h; omega
  · split <;> simp only <;> omega
theorem clip_corner {a : Rc} {R C : Int} (h : 0 < (clipF a R C).r) : a.t ≤ (clipF a R C).t ∧ a.l ≤ (clipF a R C).l := by
  have g1 := @rspan_ge a.t a.r R
  have g2 := @rspan_ge a.l a.c C
  unfold clipF at *
  split
  · rename_i hc; rw [if_pos hc] at h; simp only at h; omega
  · simp only
    exact ⟨g1 (by omega), g2 (by omega)⟩
structure Scr (G : Gd) (R C : Nat) : Prop where
  len : G.length = R
  row : ∀ L ∈ G, L.length = C
theorem Scr.tileTo {G : Gd} {R C : Nat} (h : Scr G R C) (a : Tl × Gd) (n : Int) : Scr (Run.tileTo R C a n G) R C := by
  refine ⟨by rw [tileTo_len]; exact h.len, fun L hL => ?_⟩
  obtain ⟨i, hi⟩ := List.mem_iff_getElem?.1 hL
  rw [tileTo_get] at hi
  obtain ⟨K, hK, rfl⟩ := Option.map_eq_some_iff.1 hi
  have hKl := h.row K (List.mem_of_getElem? hK)
  have w := clip_within (a := a.1.r) (R := R) (C := C) (by omega) (by omega)
  split
  · rename_i hc
    rw [layF_len ⟨w.l, ?_, by rw [hKl]; exact w.e⟩, hKl]
    have := clip_corner (a := a.1.r) (R := R) (C := C) (by omega)
    omega
  · exact hKl
theorem scr0 (R C : Nat) (hR : 0 < R) (b : List Ce) : Scr (screen0 R C b) R C := by
  refine ⟨by unfold screen0; simp; omega, fun L hL => ?_⟩
  rcases List.mem_cons.1 hL with rfl | h
  · exact resizeF_len _ _ _
  · rw [(List.mem_replicate.1 h).2]; simp
theorem tile_ok {G : Gd} {R C : Nat} (h : Scr G R C) (w : WhG G) (lb : LbG G) {a : Tl × Gd} (wa : WhG a.2) (la : LbG a.2) : WhG (tileF R C a G) ∧ LbG (tileF R C a G) := by
  have wc := clip_within (a := a.1.r) (R := R) (C := C) (by omega) (by omega)
  have own : ∀ i : Nat, max 1 (clipF a.1.r R C).t ≤ i ∧ (i : Int) < (clipF a.1.r R C).t + (clipF a.1.r R C).r ∧ (i : Int) - a.1.r.t < a.2.length ∧ (i : Int) < (R : Int) → a.2.getD ((i : Int) - a.1.r.t).toNat [] ∈ a.2 ∧ 0 ≤ (clipF a.1.r R C).l - a.1.r.l := fun i hc => by
    have := clip_corner (a := a.1.r) (R := R) (C := C) (by omega)
    exact ⟨getD_mem (by omega), by omega⟩
  constructor <;>
  · intro L hL
    obtain ⟨i, hi⟩ := List.mem_iff_getElem?.1 hL
    unfold tileF at hi
    rw [tileTo_get] at hi
    obtain ⟨K, hK, rfl⟩ := Option.map_eq_some_iff.1 hi
    have hKm := List.mem_of_getElem? hK
    have hKl := h.row K hKm
    split
    · rename_i hc
      obtain ⟨h1, h2⟩ := own i hc
      first
        | exact layF_wh ⟨wc.l, h2, by rw [hKl]; exact wc.e⟩ (w K hKm) (wa _ h1)
        | exact layF_lb (lb K hKm) (la _ h1)
    · first
        | exact w K hKm
        | exact lb K hKm
theorem screen0_ok (R C : Nat) {b : List Ce} (w : Wh b) (lb : Lb b) : WhG (screen0 R C b) ∧ LbG (screen0 R C b) := by
  constructor
  · intro L hL
    rcases List.mem_cons.1 hL with rfl | h
    · exact w.resize _ rfl
    · rw [(List.mem_replicate.1 h).2]; exact .rep _ rfl
  · intro L hL
    rcases List.mem_cons.1 hL with rfl | h
    · unfold resizeF; exact ((lb.brk _).take _).append (.rep _ (.inl rfl))
    · rw [(List.mem_replicate.1 h).2]; exact .rep _ (.inl rfl)
end Go.Proofs.Ytkelbhcaecojkaa.Run
