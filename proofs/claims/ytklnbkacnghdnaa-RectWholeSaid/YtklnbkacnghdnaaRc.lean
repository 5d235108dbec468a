/- What is done to a rectangle of a grid: erased, filled, copied. -/
import Derived.Test.YtklnbkacnghdnaaGridB
import Derived.Test.YtklnbkacnghdnaaVcR
namespace Go.Proofs.Ytklnbkacnghdnaa.Run
open Go Go.RowKit
set_option linter.unusedVariables false
set_option linter.unusedSimpArgs false
def I64 (x : Int) : Prop := -9223372036854775808 ≤ x ∧ x ≤ 9223372036854775807
structure Rc where
  t : Int
  l : Int
  r : Int
  c : Int
deriving DecidableEq
instance : Enc Rc := ⟨4, fun a => [.int .i64 a.t, .int .i64 a.l, .int .i64 a.r, .int .i64 a.c], fun _ => rfl, by decide⟩
def Rc.ok (a : Rc) : Prop := I64 a.t ∧ I64 a.l ∧ I64 a.r ∧ I64 a.c
abbrev Rc.val (a : Rc) : Value := .agg #[.int .i64 a.t, .int .i64 a.l, .int .i64 a.r, .int .i64 a.c]
def rspanF (f n most : Int) : Int × Int := if n ≤ 0 ∨ most ≤ f then (0, 0) else if f < 0 ∨ n < most - f then (max 0 f, max 0 (min most (f + n))) else (max 0 f, max 0 most)
def clipF (a : Rc) (R C : Int) : Rc :=
  if (rspanF a.t a.r R).2 ≤ (rspanF a.t a.r R).1 ∨ (rspanF a.l a.c C).2 ≤ (rspanF a.l a.c C).1 then ⟨0, 0, 0, 0⟩
  else ⟨(rspanF a.t a.r R).1, (rspanF a.l a.c C).1, (rspanF a.t a.r R).2 - (rspanF a.t a.r R).1, (rspanF a.l a.c C).2 - (rspanF a.l a.c C).1⟩
structure Rc.within (a : Rc) (R C : Int) : Prop where
  t : 0 ≤ a.t
  l : 0 ≤ a.l
  r : 0 ≤ a.r
  c : 0 ≤ a.c
  b : a.t + a.r ≤ R
  e : a.l + a.c ≤ C
theorem rspan_in {f n m : Int} (hm : 0 ≤ m) : 0 ≤ (rspanF f n m).1 ∧ 0 ≤ (rspanF f n m).2 ∧ (rspanF f n m).2 ≤ m := by
  unfold rspanF
  repeat' split
  all_goals simp only
  all_goals omega
theorem clip_within {a : Rc} {R C : Int} (hR : 0 ≤ R) (hC : 0 ≤ C) : (clipF a R C).within R C := by
  have h1 := rspan_in (f := a.t) (n := a.r) hR
  have h2 := rspan_in (f := a.l) (n := a.c) hC
  unfold clipF
  split
  · exact ⟨by simp, by simp, by simp, by simp, by simpa using hR, by simpa using hC⟩
  · exact ⟨by simp only; omega, by simp only; omega, by simp only; omega, by simp only; omega, by simp only; omega, by simp only; omega⟩
section
variable {M : Mem} {Q : Value → Mem → Prop}
theorem t2_of {x y x' y' : Int} (q : Q (.tuple #[.int .i64 x', .int .i64 y']) M) (h : (x', y') = (x, y)) : Q (.tuple #[.int .i64 x, .int .i64 y]) M := by
  cases h; exact q
theorem rspan_W (hM : M.base ≤ M.size) {f n m : Int} (hf : I64 f) (hn : I64 n) (hm : I64 m) (q : Q (.tuple #[.int .i64 (rspanF f n m).1, .int .i64 (rspanF f n m).2]) M) : W funs known (.func (.func n_rect_span) #[] #[]) [.int .i64 f, .int .i64 n, .int .i64 m] M Q := by
  refine rect_span_wp hM ?_
  unfold I64 at hf hn hm
  repeat' (first | refine step_gtr ?_ | refine step_lss ?_ | refine step_leq ?_ | refine step_geq ?_ | refine step_eql ?_ | refine step_neq ?_ | refine step_not ?_ | refine wpIf.dec (fun _ => ?_) (fun _ => ?_) | refine wpIf.tt ?_ | refine wpIf.ff ?_ | refine step_add (by omega) (by omega) ?_ | refine step_sub (by omega) (by omega) ?_ | refine step_max ?_ | refine step_min ?_)
  all_goals refine t2_of q ?_
  all_goals unfold rspanF
  all_goals repeat' split
  all_goals first | rfl | (exfalso; omega)
theorem rspan_ok {f n m : Int} (hf : I64 f) (hn : I64 n) (hm : I64 m) : 0 ≤ (rspanF f n m).1 ∧ 0 ≤ (rspanF f n m).2 ∧ (rspanF f n m).1 ≤ 9223372036854775807 ∧ (rspanF f n m).2 ≤ 9223372036854775807 := by
  unfold I64 at hf hn hm
  unfold rspanF
  repeat' split
  all_goals simp only
  all_goals omega
theorem clip_W (hM : M.base ≤ M.size) {a : Rc} (ha : a.ok) {R C : Int} (hR : I64 R) (hC : I64 C) (q : ∀ M', Ext M M' → Q (clipF a R C).val M') : W funs known (.func (.func n_rect_Clip) #[] #[]) [a.val, .int .i64 R, .int .i64 C] M Q := by
  obtain ⟨h1, h2, h3, h4⟩ := ha
  have o1 := rspan_ok h1 h3 hR
  have o2 := rspan_ok h2 h4 hC
  refine rect_Clip_wp hM ⟨rfl, fun b1 M2 hb1 hM2 => ⟨rfl, fun b3 M4 hb3 hM4 => ?_⟩⟩
  have e4 : Ext M M4 := (Ext.push' hM2).trans (Ext.push' hM4)
  have s2 : M2.size = M.size + 1 := by rw [hM2]; rfl
  have s4 : M4.size = M2.size + 1 := by rw [hM4]; rfl
  refine rspan_W (e4.ok hM) h1 h3 hR ⟨KeepB.refl _ _, _, rfl, _, rfl, rspan_W (e4.ok hM) h2 h4 hC ⟨KeepB.refl _ _, _, rfl, _, rfl, ?_⟩⟩
  refine step_leq (wpIf.dec (fun c => ?_) (fun c => step_leq (wpIf.dec (fun c' => ?_) (fun c' => ?_))))
  · refine ⟨_, rfl, ⟨rfl, rfl, by decide⟩, fun M5 hM5 => LGetN.as (Rc.val ⟨0, 0, 0, 0⟩) (by decide) rfl ?_⟩
    have : clipF a R C = ⟨0, 0, 0, 0⟩ := by unfold clipF; rw [if_pos (.inl c)]
    rw [← this]
    exact q _ (hM5 ▸ e4.set (by omega) (by omega) _)
  · refine ⟨_, rfl, ⟨rfl, rfl, by decide⟩, fun M5 hM5 => LGetN.as (Rc.val ⟨0, 0, 0, 0⟩) (by decide) rfl ?_⟩
    have : clipF a R C = ⟨0, 0, 0, 0⟩ := by unfold clipF; rw [if_pos (.inr c')]
    rw [← this]
    exact q _ (hM5 ▸ e4.set (by omega) (by omega) _)
  · refine step_sub (by omega) (by omega) (step_sub (by omega) (by omega) ⟨_, rfl, ⟨rfl, rfl, by decide⟩, fun M5 hM5 => LGetN.as (clipF a R C).val (by exact Nat.le_refl 4) ?_ (q _ (hM5 ▸ e4.set (by omega) (by omega) _))⟩)
    unfold clipF
    rw [if_neg (by omega)]
    rfl
end
end Go.Proofs.Ytklnbkacnghdnaa.Run
namespace Go.Proofs.Ytklnbkacnghdnaa.Run
open Go Go.RowKit
set_option linter.unusedVariables false
set_option linter.unusedSimpArgs false
section
variable {M : Mem} {b : Nat} {c : List Value} {ty : TypeId} {w : Bool} {P : Value → Prop}
theorem pt_f {f o : Nat} (p : P (.pointer (some ⟨b, o + f, none⟩))) : ∃ v, opSem (.fieldAddr f (.const (.pointer (some ⟨b, o, none⟩)))) [] M = some (v, M) ∧ P v := ⟨_, rfl, p⟩
theorem pt_ld {o : Nat} {x : Value} (h : M.get b = some (.cells c ty w)) (hx : c[o]? = some x) (p : P x) : ∃ v, opSem (.load none (.const (.pointer (some ⟨b, o, none⟩)))) [] M = some (v, M) ∧ P v := by
  refine ⟨x, ?_, p⟩
  simp only [opSem, ev, Mem.load1, h, hx, Option.map_some]
theorem pt_ldn {o n : Nat} {x : Value} (h : M.get b = some (.cells c ty w)) (hn : o + n ≤ c.length) (hx : .agg ((c.drop o).take n).toArray = x) (p : P x) : ∃ v, opSem (.load (some n) (.const (.pointer (some ⟨b, o, none⟩)))) [] M = some (v, M) ∧ P v := by
  refine ⟨x, ?_, p⟩
  simp only [opSem, ev, Mem.loadN, h, if_pos hn, Option.map_some, hx]
end
theorem wrG {M₀ M : Mem} (e : Ext M₀ M) (hb : M₀.base ≤ M₀.size) {ty : TypeId} {v : Value} {R : List Vl} (h : New ty M₀ M v R) {i : Nat} (hi : i < R.length) {x : Value} (hx1 : x.cells.toList = [x]) (hx2 : notTup x = true) {j : IntKind} :
    ∃ p, opSem (.addrL 1 (.const v) (.const (.int j (i : Int)))) [] M = some (p, M) ∧ ∃ u M', opSem (.store 1 (.const p) (.const x)) [] M = some (u, M') ∧ Ext M₀ M' ∧ New ty M₀ M' v (R.set i ⟨x⟩) ∧ ∀ c, c < M.size → blk v ≠ some c → M'.get c = M.get c := by
  obtain ⟨b, sp, rfl, h1, h2⟩ := h
  have hbs := Mem.lt_of_get h1
  have eb := e.base
  refine ⟨.pointer (some ⟨b, 0 + i * 1, none⟩), ?_, undef, M.set b (.cells (flat (R.set i ⟨x⟩)) ty true), ?_, e.set h2 hbs _, ⟨b, sp, by rw [List.length_set], by rw [Mem.get_set _ _ _ hbs, if_pos rfl], h2⟩, fun c hc hne => ?_⟩
  · simp only [opSem, ev]
    rw [if_pos ⟨by omega, by omega⟩, Int.toNat_natCast]
  · have hsz : x.cells.size = 1 := by have := congrArg List.length hx1; simpa using this
    have hput : splice (flat R) (0 + i * 1) [x] = flat (R.set i ⟨x⟩) := by
      have := flat_put (E := inferInstance) (L := R) (i := i) (a := R[i]) (a' := (⟨x⟩ : Vl)) (List.getElem?_eq_getElem hi) (f := 0) (vs := [x]) (Nat.le_refl 1) rfl
      rw [Nat.zero_add]; exact this
    have hlen : (flat R).length = R.length * 1 := flat_len R
    have : M.storeQ b (0 + i * 1) [x] = some (M.set b (.cells (flat (R.set i ⟨x⟩)) ty true)) := by
      simp only [Mem.storeQ, Mem.storeN, h1]
      rw [if_pos ⟨by omega, by rw [hlen, List.length_singleton]; omega⟩, hput]
    simp only [opSem, ev, hsz, hx2, hx1, and_self, if_true, this, Option.map_some]
  · rw [Mem.get_set _ _ _ hbs, if_neg]
    intro hcb; exact hne (by simp [blk, hcb])
theorem copyN {M₀ M : Mem} (e : Ext M₀ M) (hb : M₀.base ≤ M₀.size) {v : Value} {L : List Ce} (h : New 50 M₀ M v L) {x : Int} (h0 : 0 ≤ x) (hx : x < L.length) {j : IntKind} :
    ∃ d, opSem (.sliceL 14 (.const v) (some (.const (.int j x))) none none) [] M = some (d, M) ∧ ∀ (s : Value) (B : List Ce), Srcs M s B → x + B.length ≤ L.length → ∃ u M', opSem (.copy 14 (.const d) (.const s)) [] M = some (u, M') ∧ Ext M₀ M' ∧ New 50 M₀ M' v (L.take x.toNat ++ B ++ L.drop (x.toNat + B.length)) := by
  obtain ⟨b, sp, rfl, h1, h2⟩ := h
  have hbs := Mem.lt_of_get h1
  have eb := e.base
  obtain ⟨p, rfl⟩ : ∃ p : Nat, x = p := ⟨x.toNat, by omega⟩
  rw [Int.toNat_natCast]
  have hne : ¬ L.length = p := by omega
  refine ⟨.slice (some ⟨b, 0 + p * 14, sp⟩) (L.length - p) (L.length - p), ?_, fun s B hs hB => ?_⟩
  · have hbn : bounds L.length L.length (some (.int j p)) none none = some (p, L.length, L.length) := by
      simp only [bounds, optBound, boundV, Option.bind_some]
      rw [if_pos ⟨by omega, by omega⟩]
      simp
    simp only [opSem, ev, Option.map_none, Option.map_some, hbn, Option.bind_some, Option.isSome_none, sliceV]
    rw [if_neg (by omega), if_neg hne]; rfl
  · obtain ⟨l1, l2, l3⟩ := hs
    by_cases hB0 : B = []
    · subst hB0
      refine ⟨.int .i64 0, M, ?_, e, b, sp, by simp, by simpa using h1, h2⟩
      simp only [opSem, ev, copyV, l1, List.length_nil, Nat.zero_min, if_true]
    · have hsrc : srcOf M 14 s B.length = some (flat B) := l3 hB0
      have hBl : 0 < B.length := List.length_pos_iff.2 hB0
      have hk : ∀ A : List Ce, (flat A).length = A.length * 14 := fun A => flat_len A
      have hl : (L.take p ++ B ++ L.drop (p + B.length)).length = L.length := by simp only [List.length_append, List.length_take, List.length_drop]; omega
      have hst : M.storeN b (0 + p * 14) (flat B) = some (M.set b (.cells (flat (L.take p ++ B ++ L.drop (p + B.length))) 50 true)) := by
        simp only [Mem.storeN, h1]
        rw [if_pos ⟨by omega, by rw [hk, hk]; have : (p + B.length) * 14 ≤ L.length * 14 := Nat.mul_le_mul_right _ (by omega); omega⟩]
        congr 3
        unfold splice
        have t1 : (flat L).take (0 + p * 14) = flat (L.take p) := by rw [Nat.zero_add]; exact flat_take L p
        have t2 : (flat L).drop (0 + p * 14 + (flat B).length) = flat (L.drop (p + B.length)) := by
          rw [hk, Nat.zero_add, ← Nat.add_mul]; exact flat_drop L (p + B.length)
        rw [t1, t2, flat_append, flat_append]
      refine ⟨.int .i64 B.length, _, ?_, e.set h2 hbs _, b, sp, by rw [hl], by rw [Mem.get_set _ _ _ hbs, if_pos rfl], h2⟩
      simp only [opSem, ev, copyV, l1]
      rw [Nat.min_eq_left (by omega), if_neg (by omega), hsrc]
      simp only [hst, Option.map_some]
def changedF (G : Gd) (top rows : Int) (F : Nat → List Ce) : Gd := G.mapIdx fun i L => if top ≤ i ∧ (i : Int) < top + rows then F i else L
theorem changedF_get (G : Gd) (top rows : Int) (F : Nat → List Ce) (i : Nat) : (changedF G top rows F)[i]? = (G[i]?).map fun L => if top ≤ i ∧ (i : Int) < top + rows then F i else L := by unfold changedF; rw [List.getElem?_mapIdx]
theorem changedF_len (G : Gd) (top rows : Int) (F : Nat → List Ce) : (changedF G top rows F).length = G.length := by unfold changedF; simp
theorem changedF_take (G : Gd) (top rows : Int) (F : Nat → List Ce) {i : Nat} {L : List Ce} (h : G[i]? = some L) : (changedF G top rows F).take (i + 1) = (changedF G top rows F).take i ++ [if top ≤ i ∧ (i : Int) < top + rows then F i else L] := by
  have hg := changedF_get G top rows F i
  rw [h] at hg
  obtain ⟨h1, h2⟩ := List.getElem?_eq_some_iff.1 hg
  rw [List.take_succ_eq_append_getElem h1, h2]
section
variable {M : Mem} {Q : Value → Mem → Prop}
abbrev nilV : Value := .slice none 0 0
def Part (M₀ M : Mem) (v : Value) (G : Gd) (n : Nat) : Prop := ∃ P : Parts, New 36 M₀ M v (P.row ++ List.replicate (n - P.length) ⟨nilV⟩) ∧ P.length ≤ n ∧ (∀ p ∈ P, Mine 50 M₀ M p.1 p.2) ∧ P.map (·.2) = G
theorem Part.ext {M₀ M M' : Mem} (e : Ext M M') {v : Value} {G : Gd} {n : Nat} (h : Part M₀ M v G n) : Part M₀ M' v G n := by
  obtain ⟨P, h1, h2, h3, h4⟩ := h
  exact ⟨P, h1.ext e, h2, fun p hp => (h3 p hp).ext e, h4⟩
theorem Part.put {M₀ M : Mem} (e : Ext M₀ M) (hb : M₀.base ≤ M₀.size) {v : Value} {G : Gd} {n : Nat} (h : Part M₀ M v G n) (hlt : G.length < n) {x : Value} {L : List Ce} (hx : Mine 50 M₀ M x L) {i : Nat} (hi : i = G.length) {PM : Value → Mem → Prop}
    (q : ∀ u M', Ext M₀ M' → Part M₀ M' v (G ++ [L]) n → PM u M') : ∃ p, opSem (.addrL 1 (.const v) (.const (.int .i64 (i : Int)))) [] M = some (p, M) ∧ ∃ u M', opSem (.store 1 (.const p) (.const x)) [] M = some (u, M') ∧ PM u M' := by
  obtain ⟨P, h1, h2, h3, h4⟩ := h
  have hPl : P.length = G.length := by rw [← h4]; simp
  have hrow : P.row.length = P.length := by simp
  have hx1 : x.cells.toList = [x] ∧ notTup x = true := by
    obtain ⟨a, cap, rfl⟩ := hx.sl.shape; exact ⟨rfl, rfl⟩
  subst hi
  obtain ⟨p, g1, u, M', g2, g3, g4, g5⟩ := wrG e hb h1 (i := G.length) (by rw [List.length_append, List.length_replicate]; omega) hx1.1 hx1.2 (j := .i64)
  have hset : (P.row ++ List.replicate (n - P.length) (⟨nilV⟩ : Vl)).set G.length ⟨x⟩ = Parts.row (P ++ [(x, L)]) ++ List.replicate (n - (P ++ [(x, L)]).length) ⟨nilV⟩ := by
    rw [List.set_append_right _ _ (by omega), hrow, hPl, Nat.sub_self, show n - G.length = (n - (G.length + 1)) + 1 by omega, List.replicate_succ, List.set_cons_zero]
    have hr2 : Parts.row (P ++ [(x, L)]) = P.row ++ [(⟨x⟩ : Vl)] := by simp [Parts.row]
    rw [hr2, List.length_append, hPl, List.length_singleton, List.append_assoc]; rfl
  rw [hset] at g4
  refine ⟨p, g1, u, M', g2, q u M' g3 ⟨P ++ [(x, L)], g4, by rw [List.length_append, List.length_singleton]; omega, fun z hz => ?_, by rw [List.map_append, h4]; rfl⟩⟩
  rcases List.mem_append.1 hz with hz | hz
  · exact mine_keep (.inl h1) (h3 z hz) (by decide) g5
  · rw [List.mem_singleton] at hz; subst hz
    exact mine_keep (.inl h1) hx (by decide) g5
theorem Part.done {M₀ M : Mem} {v : Value} {G : Gd} (h : Part M₀ M v G G.length) : GrN M₀ M v G := by
  obtain ⟨P, h1, h2, h3, h4⟩ := h
  have hPl : P.length = G.length := by rw [← h4]; simp
  refine ⟨P, .inl ?_, h3, h4⟩
  rw [hPl, Nat.sub_self, List.replicate_zero, List.append_nil] at h1
  exact h1
abbrev chI (M : Mem) (G : Gd) (top rows : Int) (F : Nat → List Ce) (v cv own : Value) : Nat → LS → Prop := fun k s => ∃ (i : Nat) (M' : Mem), s = rect_changed_l1_s v (.int .i64 top) (.int .i64 rows) cv own (.int .i64 G.length) (.int .i64 i) [] M' ∧ Ext M M' ∧ Part M M' own ((changedF G top rows F).take i) G.length ∧ i ≤ G.length ∧ k = G.length - i
theorem changed_W (hM : M.base ≤ M.size) {v : Value} {G : Gd} (h : Gr M v G) (hl : ∀ L ∈ G, L.length ≤ 2 ^ 30) (hn : G.length ≤ 2 ^ 20) {top rows : Int} (ht : 0 ≤ top ∧ 0 ≤ rows ∧ top + rows ≤ 2 ^ 40) {cv : Value} {F : Nat → List Ce}
    (hch : ∀ (M' : Mem) (i : Nat) (Q' : Value → Mem → Prop), Ext M M' → i < G.length → top ≤ i → (i : Int) < top + rows → (∀ M'' r, Ext M' M'' → New 50 M' M'' r (F i) → Q' r M'') → W funs known cv [.int .i64 i] M' Q')
    (q : ∀ M' r, Ext M M' → GrN M M' r (changedF G top rows F) → Q r M') : W funs known (.func (.func n_rect_changed) #[] #[]) [v, .int .i64 top, .int .i64 rows, cv] M Q := by
  obtain ⟨a, cap, rfl⟩ := h.shape
  refine rect_changed_wp hM (step_len ⟨.slice (some ⟨M.size, 0, some 0⟩) G.length G.length, M.push (.cells (rep G.length [nilV]) 36 true), ?_, step_len ?_⟩)
  · simp only [opSem, ev]
    rw [if_pos ⟨by omega, Int.le_refl _, by omega, by omega⟩, Int.toNat_natCast]
  have e3 : Ext M (M.push (.cells (rep G.length [nilV]) 36 true)) := Ext.push _ _
  have p3 : Part M (M.push (.cells (rep G.length [nilV]) 36 true)) (.slice (some ⟨M.size, 0, some 0⟩) G.length G.length) [] G.length := by
    refine ⟨[], ⟨M.size, some 0, by simp, ?_, Nat.le_refl _⟩, by simp, by simp, rfl⟩
    rw [Mem.get_push, if_pos rfl]
    have : flat (Parts.row [] ++ List.replicate (G.length - ([] : Parts).length) (⟨nilV⟩ : Vl)) = rep G.length [nilV] := by
      rw [show Parts.row [] = ([] : List Vl) from rfl, List.nil_append, List.length_nil, Nat.sub_zero, flat_replicate]; rfl
    rw [this]
  generalize M.push (.cells (rep G.length [nilV]) 36 true) = M3 at e3 p3 ⊢
  generalize (Value.slice (some ⟨M.size, 0, some 0⟩) G.length G.length) = own at p3 ⊢
  refine ⟨rect_changed_l1_m, chI M G top rows F (.slice a G.length cap) cv own, ⟨G.length, 0, M3, rfl, e3, by simpa using p3, Nat.zero_le _, rfl⟩, ?_⟩
  rintro k s ⟨i, M', rfl, eM, pM0, hi, rfl⟩
  have pM : Part M M' own ((changedF G top rows F).take i) G.length := pM0
  clear pM0 p3
  have kM := eM.ok hM
  have hti : ((changedF G top rows F).take i).length = i := by rw [List.length_take, changedF_len]; omega
  refine rect_changed_l1_wp (I := chI M G top rows F (.slice a G.length cap) cv own) (step_lss (wpIf.dec (fun g1 => ?_) (fun g1 => ?_)))
  · obtain ⟨L, hL⟩ : ∃ L, G[i]? = some L := ⟨_, List.getElem?_eq_getElem (by omega)⟩
    have hct := changedF_take G top rows F hL
    have next : ∀ {N : Mem} {r : Value}, Ext M' N → Mine 50 M' N r (if top ≤ i ∧ (i : Int) < top + rows then F i else L) →
        ∃ p, opSem (.addrL 1 (.const own) (.const (.int .i64 (i : Int)))) [] N = some (p, N) ∧ ∃ u N', opSem (.store 1 (.const p) (.const r)) [] N = some (u, N') ∧ ∃ z, binV .add 0 [] (.int .i64 i) (.int .i64 1) = some z ∧ ∃ j, j < G.length - i ∧ chI M G top rows F (.slice a G.length cap) cv own j (rect_changed_l1_s (.slice a G.length cap) (.int .i64 top) (.int .i64 rows) cv own (.int .i64 G.length) z [] N') := by
      intro N r eN nN
      refine (pM.ext eN).put (eM.trans eN) hM (by omega) (nN.old eM) hti.symm fun u N' e' p' => step_add (by omega) (by omega) ⟨G.length - (i + 1), by omega, i + 1, N', rfl, e', ?_, by omega, rfl⟩
      rw [hct]; exact p'
    have stay : ¬ (top ≤ i ∧ (i : Int) < top + rows) → ∃ p, opSem (.addrL 1 (.const (.slice a G.length cap)) (.const (.int .i64 (i : Int)))) [] M' = some (p, M') ∧ ∃ x, opSem (.load none (.const p)) [] M' = some (x, M') ∧ W funs known (.func (.func n_row_Break) #[] #[]) [x, .slice none 0 0] M' (fun r N =>
        ∃ p, opSem (.addrL 1 (.const own) (.const (.int .i64 (i : Int)))) [] N = some (p, N) ∧ ∃ u N', opSem (.store 1 (.const p) (.const r)) [] N = some (u, N') ∧ ∃ z, binV .add 0 [] (.int .i64 i) (.int .i64 1) = some z ∧ ∃ j, j < G.length - i ∧ chI M G top rows F (.slice a G.length cap) cv own j (rect_changed_l1_s (.slice a G.length cap) (.int .i64 top) (.int .i64 rows) cv own (.int .i64 G.length) z [] N')) := fun hno => by
      refine rdG (h.ext eM) (by omega) (by rw [Int.toNat_natCast]; exact hL) fun _ x sx => break_W kM sx (Sl.nil _) (hl L (List.mem_of_getElem? hL)) (by simp) fun N r eN nN => next eN (.inl ?_)
      rw [if_neg hno]; exact nN
    refine step_geq (wpIf.dec (fun g2 => step_add (by omega) (by omega) (step_lss (wpIf.dec (fun g3 => ?_) (fun g3 => ?_)))) (fun g2 => ?_))
    · refine hch M' i _ eM (by omega) (by omega) (by omega) fun N r eN nN => next eN (.inl ?_)
      rw [if_pos ⟨by omega, g3⟩]; exact nN
    · exact stay (by omega)
    · exact stay (by omega)
  · have : i = G.length := by omega
    subst this
    refine blockK.hit (rect_changed_c0_wp (q M' own eM ?_))
    have hl2 := changedF_len G top rows F
    rw [List.take_of_length_le (by omega), ← hl2] at pM
    exact pM.done
end
end Go.Proofs.Ytklnbkacnghdnaa.Run
