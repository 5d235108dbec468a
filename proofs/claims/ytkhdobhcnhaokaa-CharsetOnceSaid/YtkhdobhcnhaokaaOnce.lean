/- The law CharsetOnce: run on whatever it is given, it answers true. -/
import Derived.Test.YtkhdobhcnhaokaaPlaces
namespace Go.Proofs.Ytkhdobhcnhaokaa.Run
open Go Go.RowKit
set_option linter.unusedVariables false
set_option linter.unusedSimpArgs false

theorem single_W' {M : Mem} {Q : Value → Mem → Prop} {x D : Ch} {r : Int} {is : Bool} (e : x.singleF r = (D, is)) (h : Q (.tuple #[D.val, .bool is]) M) : W funs chE (.func (.func n_charset_Choice_Single) #[] #[]) [x.val, .int .i64 r] M Q :=
  single_W (by rw [e]; exact h)
theorem lock_W' {M : Mem} {Q : Value → Mem → Prop} {x D : Ch} {r : Int} {is : Bool} (e : x.lockF r = (D, is)) (h : Q (.tuple #[D.val, .bool is]) M) : W funs chE (.func (.func n_charset_Choice_Lock) #[] #[]) [x.val, .int .u8 r] M Q :=
  lock_W (by rw [e]; exact h)
theorem map_W' {M : Mem} {Q : Value → Mem → Prop} {x D : Ch} (ho : x.ok) {r s : Int} (e : x.mapF r = (D, s)) (h : Q (.tuple #[D.val, .int .i32 s]) M) : W funs chE (.func (.func n_charset_Choice_Map) #[] #[]) [x.val, .int .i32 r] M Q :=
  map_W ho (by rw [e]; exact h)
theorem now_W' {M : Mem} {Q : Value → Mem → Prop} {x : Ch} (ho : x.ok) {n : Int} (e : x.nowF = n) (h : Q (.int .i64 n) M) : W funs chE (.func (.func n_charset_Choice_Now) #[] #[]) [x.val] M Q :=
  now_W ho (by rw [e]; exact h)
theorem sets_W' {M : Mem} {Q : Value → Mem → Prop} {x : Ch} (ho : x.ok) {v : Value} (e : x.setsV = v) (h : Q v M) : W funs chE (.func (.func n_charset_Choice_Sets) #[] #[]) [x.val] M Q :=
  sets_W ho (by rw [e]; exact h)
theorem sets_self (a b c d : Int) : eqV true [0, 0, 0, 0] (.agg #[.int .i64 a, .int .i64 b, .int .i64 c, .int .i64 d]) (.agg #[.int .i64 a, .int .i64 b, .int .i64 c, .int .i64 d]) = some true := by
  simp [eqV, eqCells, cellEq]
theorem neq_sets (x : Ch) : binV .neq 2 [0, 0, 0, 0] x.setsV x.setsV = some (.bool false) := by
  show (if (2 : Nat) = 2 then (eqV true [0, 0, 0, 0] x.setsV x.setsV).bind (negIf .neq) else none) = _
  rw [if_pos rfl, Ch.setsV, sets_self]; rfl
theorem eql_sets (x : Ch) : binV .eql 2 [0, 0, 0, 0] x.setsV x.setsV = some (.bool true) := by
  show (if (2 : Nat) = 2 then (eqV true [0, 0, 0, 0] x.setsV x.setsV).bind (negIf .eql) else none) = _
  rw [if_pos rfl, Ch.setsV, sets_self]; rfl
theorem neq_same (x : Ch) : binV .neq 2 [0, 0, 0, 0, 0, 0] x.val x.val = some (.bool false) := by rw [neq_ch]; simp

/-- the two places of a single shift, one behind the other -/
abbrev onceI (a b : Int) (c : Ch) (b6 : Nat) : Nat → LS → Prop := fun k s => ∃ (i : Int) (M' : Mem), s = law05_CharsetOnce_l2_s (.int .i32 a) (.int .i32 b) (.int .i64 c.nowF) (.int .i64 i) b6 c.val.cells.toList [] M' ∧ 2 ≤ i ∧ i ≤ 4 ∧ k = (4 - i).toNat

theorem once_end {c : Ch} (hc : c.ok) (hf : c.f = 0) (a b : Int) {b6 : Nat} {Q : Value → Mem → Prop} (q : ∀ M', Q (.bool true) M') (M : Mem) :
    LGetN c.val.cells.toList 0 6 (fun v1 => W funs chE (.func (.func n_charset_Choice_Lock) #[] #[]) [v1, (.int .u8 14)] M (fun r2 M3 => r2 = .tuple #[({ c with e := 1 } : Ch).val, .bool true] ∧ M3 = M)) := by
  refine LGetN.as c.val (by exact Nat.le_refl 6) rfl (lock_W' (D := { c with e := 1 }) (is := true) rfl ⟨rfl, rfl⟩)

set_option maxHeartbeats 1000000 in
theorem once_rest {c : Ch} (hc : c.ok) (hf : c.f = 0) (a b : Int) {b6 : Nat} {Q : Value → Mem → Prop} (q : ∀ M', Q (.bool true) M') {t : LS} (ht : onceI a b c b6 2 (t.forget law05_CharsetOnce_l2_m)) (hl : t.L.length = 1) :
    LoopW (wpC funs chE none law05_CharsetOnce_l2) t (blockK 0 (seqK (fun s => wpC funs chE none law05_CharsetOnce_c1 s (retK mf6 Q)) (retK mf6 Q))) := by
  have hne := hc.2.2.2.2.1
  have hnow : c.nowF = c.e := by unfold Ch.nowF nowF; rw [if_pos hf]
  have h0 : c.mapF a = (c, ofF (c.get c.nowF) a) := by
    obtain ⟨c1, c2, c3, c4, c5, c6⟩ := c
    simp only at hf hne
    subst hf
    rcases hne with rfl | rfl <;> rfl
  have h0b : c.mapF b = (c, ofF (c.get c.nowF) b) := by
    obtain ⟨c1, c2, c3, c4, c5, c6⟩ := c
    simp only at hf hne
    subst hf
    rcases hne with rfl | rfl <;> rfl
  refine ⟨law05_CharsetOnce_l2_m, onceI a b c b6, ⟨2, ht⟩, ?_⟩
  rintro k s ⟨i, M', rfl, h2, h4, rfl⟩
  refine law05_CharsetOnce_l2_wp (I := onceI a b c b6) ?_
  refine step_leq (wpIf.dec (fun h3 => ?_) (fun h3 => ?_))
  rotate_left
  · -- behind the loop
    refine blockK.hit (law05_CharsetOnce_c1_wp ?_)
    refine LGetN.as c.val (by exact Nat.le_refl 6) rfl (map_W' hc h0 ⟨KeepB.refl _ _, _, rfl, _, rfl, rfl, fun b6 M7 _ _ => ⟨⟨rfl, rfl, by decide⟩, fun M8 _ => ?_⟩⟩)
    refine LGetN.as c.val (by exact Nat.le_refl 6) rfl (map_W' hc h0b ⟨KeepB.refl _ _, _, rfl, _, rfl, rfl, fun b14 M15 _ _ => ⟨⟨rfl, rfl, by decide⟩, fun M16 _ => ?_⟩⟩)
    refine LGetN.as c.val (by exact Nat.le_refl 6) rfl (LGetN.as c.val (by exact Nat.le_refl 6) rfl ⟨_, neq_same c, wpIf.ff ?_⟩)
    refine LGetN.as c.val (by exact Nat.le_refl 6) rfl (LGetN.as c.val (by exact Nat.le_refl 6) rfl ⟨_, neq_same c, wpIf.ff ?_⟩)
    have hn : 0 ≤ c.nowF ∧ c.nowF < 4 := by rw [hnow]; omega
    refine LGetN.as c.val (by exact Nat.le_refl 6) rfl (sets_W hc ⟨KeepB.refl _ _, _, idx_sets c hn.1 hn.2 _, of_W ⟨KeepB.refl _ _, step_neq (wpIf.dec (fun d => absurd rfl d) (fun _ => ?_))⟩⟩)
    refine LGetN.as c.val (by exact Nat.le_refl 6) rfl (sets_W hc ⟨KeepB.refl _ _, _, idx_sets c hn.1 hn.2 _, of_W ⟨KeepB.refl _ _, step_neq (wpIf.dec (fun d => absurd rfl d) (fun _ => ?_))⟩⟩)
    refine law05_CharsetOnce_c4_wp ?_
    have hg : ({ c with e := 1 } : Ch).ok := ⟨hc.1, hc.2.1, hc.2.2.1, hc.2.2.2.1, .inr rfl, hc.2.2.2.2.2⟩
    have hh : ({ c with e := 0 } : Ch).ok := ⟨hc.1, hc.2.1, hc.2.2.1, hc.2.2.2.1, .inl rfl, hc.2.2.2.2.2⟩
    refine LGetN.as c.val (by exact Nat.le_refl 6) rfl (lock_W' (D := { c with e := 1 }) (is := true) rfl ⟨KeepB.refl _ _, _, rfl, _, rfl, rfl, fun b6 M7 _ _ => ⟨⟨rfl, rfl, by decide⟩, fun M8 _ => ?_⟩⟩)
    refine LGetN.as ({ c with e := 1 } : Ch).val (by exact Nat.le_refl 6) rfl (lock_W' (D := { c with e := 0 }) (is := true) rfl ⟨KeepB.refl _ _, _, rfl, _, rfl, rfl, fun b6 M7 _ _ => ⟨⟨rfl, rfl, by decide⟩, fun M8 _ => ?_⟩⟩)
    refine LGetN.as ({ c with e := 1 } : Ch).val (by exact Nat.le_refl 6) rfl (now_W' hg (n := 1) (by unfold Ch.nowF nowF; rw [if_pos hf]) ⟨KeepB.refl _ _, step_eql (wpIf.dec (fun _ => ?_) (fun d => absurd rfl d))⟩)
    refine LGetN.as ({ c with e := 0 } : Ch).val (by exact Nat.le_refl 6) rfl (now_W' hh (n := 0) (by unfold Ch.nowF nowF; rw [if_pos hf]) ⟨KeepB.refl _ _, step_eql (wpIf.dec (fun _ => ?_) (fun d => absurd rfl d))⟩)
    refine LGetN.as ({ c with e := 1 } : Ch).val (by exact Nat.le_refl 6) rfl (sets_W' hg (v := c.setsV) rfl ⟨KeepB.refl _ _, ?_⟩)
    refine LGetN.as c.val (by exact Nat.le_refl 6) rfl (sets_W hc ⟨KeepB.refl _ _, _, eql_sets c, wpIf.tt ?_⟩)
    refine LGetN.as ({ c with e := 0 } : Ch).val (by exact Nat.le_refl 6) rfl (LGetN.as c.val (by exact Nat.le_refl 6) rfl ⟨_, eql_ch _ _, wpIf.dec (fun _ => q _) (fun d => ?_)⟩)
    refine LGetN.as ({ c with e := 1 } : Ch).val (by exact Nat.le_refl 6) rfl (LGetN.as c.val (by exact Nat.le_refl 6) rfl ⟨_, eql_ch _ _, ?_⟩)
    have : ({ c with e := 1 } : Ch) = c := by
      obtain ⟨c1, c2, c3, c4, c5, c6⟩ := c
      simp only at hne d
      rcases hne with rfl | rfl
      · exact absurd rfl d
      · rfl
    rw [decide_eq_true this]
    exact q _
  · have hi : i = 2 ∨ i = 3 := by omega
    have body : ∀ (i : Int), i = 2 ∨ i = 3 → ∃ d e : Ch, c.singleF i = (d, true) ∧ d.singleF (5 - i) = (e, true) ∧ e.singleF i = (d, true) ∧ d.ok ∧ e.ok ∧ d.nowF = i ∧ d.setsV = c.setsV ∧ d.mapF a = (c, ofF (c.get i) a) := by
      rintro i (rfl | rfl)
      · refine ⟨{ c with f := 2 }, { c with f := 3 }, rfl, rfl, rfl, ⟨hc.1, hc.2.1, hc.2.2.1, hc.2.2.2.1, hc.2.2.2.2.1, .inr (.inl rfl)⟩, ⟨hc.1, hc.2.1, hc.2.2.1, hc.2.2.2.1, hc.2.2.2.2.1, .inr (.inr rfl)⟩, rfl, rfl, ?_⟩
        obtain ⟨c1, c2, c3, c4, c5, c6⟩ := c
        simp only at hf; subst hf; rfl
      · refine ⟨{ c with f := 3 }, { c with f := 2 }, rfl, rfl, rfl, ⟨hc.1, hc.2.1, hc.2.2.1, hc.2.2.2.1, hc.2.2.2.2.1, .inr (.inr rfl)⟩, ⟨hc.1, hc.2.1, hc.2.2.1, hc.2.2.2.1, hc.2.2.2.2.1, .inr (.inl rfl)⟩, rfl, rfl, ?_⟩
        obtain ⟨c1, c2, c3, c4, c5, c6⟩ := c
        simp only at hf; subst hf; rfl
    obtain ⟨d, e, e1, e2, e3, hd, he, hdn, hds, hdm⟩ := body i hi
    refine LGetN.as c.val (by exact Nat.le_refl 6) rfl (single_W' e1 ⟨KeepB.refl _ _, _, rfl, _, rfl, rfl, fun b7 M8 _ _ => ⟨⟨rfl, rfl, by decide⟩, fun M9 _ => ?_⟩⟩)
    refine LGetN.as d.val (by exact Nat.le_refl 6) rfl (step_sub (by omega) (by omega) (single_W' e2 ⟨KeepB.refl _ _, _, rfl, _, rfl, rfl, fun b16 M17 _ _ => ⟨⟨rfl, rfl, by decide⟩, fun M18 _ => ?_⟩⟩))
    refine LGetN.as e.val (by exact Nat.le_refl 6) rfl (single_W' e3 ⟨KeepB.refl _ _, _, rfl, _, rfl, ⟨rfl, rfl, by exact Nat.le_refl 6⟩, fun M24 _ => ?_⟩)
    refine ⟨_, rfl, wpIf.ff ⟨_, rfl, wpIf.ff ⟨_, rfl, wpIf.ff ?_⟩⟩⟩
    refine LGetN.as d.val (by exact Nat.le_refl 6) rfl (LGetN.as d.val (by exact Nat.le_refl 6) rfl ⟨_, neq_same d, wpIf.ff ?_⟩)
    refine LGetN.as d.val (by exact Nat.le_refl 6) rfl (now_W' hd hdn ⟨KeepB.refl _ _, step_neq (wpIf.dec (fun d => absurd rfl d) (fun _ => ?_))⟩)
    refine LGetN.as d.val (by exact Nat.le_refl 6) rfl (sets_W' hd hds ⟨KeepB.refl _ _, ?_⟩)
    refine LGetN.as c.val (by exact Nat.le_refl 6) rfl (sets_W hc ⟨KeepB.refl _ _, _, neq_sets c, wpIf.ff ?_⟩)
    refine law05_CharsetOnce_c3_wp ?_
    refine LGetN.as d.val (by exact Nat.le_refl 6) rfl (map_W' hd hdm ⟨KeepB.refl _ _, _, rfl, _, rfl, rfl, fun b6 M7 _ _ => ⟨⟨rfl, rfl, by decide⟩, fun M8 _ => ?_⟩⟩)
    refine LGetN.as c.val (by exact Nat.le_refl 6) rfl (LGetN.as c.val (by exact Nat.le_refl 6) rfl ⟨_, neq_same c, wpIf.ff ?_⟩)
    refine LGetN.as c.val (by exact Nat.le_refl 6) rfl (sets_W hc ⟨KeepB.refl _ _, _, idx_sets c (by omega) (by omega) _, of_W ⟨KeepB.refl _ _, step_neq (wpIf.dec (fun d => absurd rfl d) (fun _ => ?_))⟩⟩)
    refine LGetN.as c.val (by exact Nat.le_refl 6) rfl (now_W hc ⟨KeepB.refl _ _, step_neq (wpIf.dec (fun d => absurd rfl d) (fun _ => ?_))⟩)
    refine step_add (by omega) (by omega) ?_
    exact ⟨(4 - (i + 1)).toNat, by omega, i + 1, _, rfl, by omega, by omega, rfl⟩

set_option maxHeartbeats 1000000 in
theorem charsetOnce_W {M : Mem} (hM : M.base ≤ M.size) {v : Value} {L : List Act4} (h : Sl M v L) (hL : ∀ a ∈ L, a.ok) (a b : Int) {Q : Value → Mem → Prop} (q : ∀ M', Q (.bool true) M') :
    W funs chE (.func (.func n_law05_CharsetOnce) #[] #[]) [v, .int .i32 a, .int .i32 b] M Q := by
  obtain ⟨ad, cap, rfl, hcap, hs⟩ := id h
  refine law05_CharsetOnce_wp hM (works_W ⟨_, rfl, wpIf.ff (played_W hM h hL fun M5 e5 => ?_)⟩)
  have s5 := e5.size
  refine ⟨rfl, fun b6 M7 hb6 hM7 => ⟨⟨rfl, rfl, by decide⟩, fun M8 hM8 => ?_⟩⟩
  have e7 : Ext M M7 := e5.trans (Ext.push' hM7)
  have s7 : M7.size = M5.size + 1 := by rw [hM7]; rfl
  have e8 : Ext M M8 := by rw [hM8]; exact e7.set (by omega) (by omega) _
  have hx := playF_ok L
  refine LGetN.as (playF L).val (by exact Nat.le_refl 6) rfl (played_W (freeze_ok M8) (h.ext e8).freeze hL fun M11 e11 => ⟨e11.keepF _, ?_⟩)
  generalize playF L = x at hx ⊢
  refine ⟨_, neq_same x, wpIf.ff ?_⟩
  refine LGetN.as x.val (by exact Nat.le_refl 6) rfl (map_W' hx (D := { x with f := 0 }) (s := (x.mapF 120).2) rfl ⟨KeepB.refl _ _, _, rfl, _, rfl, ⟨rfl, rfl, by exact Nat.le_refl 6⟩, fun M18 _ => ?_⟩)
  have hc : ({ x with f := 0 } : Ch).ok := ⟨hx.1, hx.2.1, hx.2.2.1, hx.2.2.2.1, hx.2.2.2.2.1, .inl rfl⟩
  have hn : ({ x with f := 0 } : Ch).nowF = x.e := rfl
  refine LGetN.as ({ x with f := 0 } : Ch).val (by exact Nat.le_refl 6) rfl (now_W hc ⟨KeepB.refl _ _, step_neq (wpIf.dec (fun c0 => step_neq (wpIf.dec (fun c1 => ?_) (fun c1 => ?_))) (fun c0 => ?_))⟩)
  · rw [hn] at c0 c1
    have := hx.2.2.2.2.1
    omega
  · exact law05_CharsetOnce_c0_wp (once_rest hc rfl a b q ⟨2, _, rfl, by omega, by omega, rfl⟩ rfl)
  · exact law05_CharsetOnce_c0_wp (once_rest hc rfl a b q ⟨2, _, rfl, by omega, by omega, rfl⟩ rfl)
end Go.Proofs.Ytkhdobhcnhaokaa.Run
