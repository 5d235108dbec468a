/- What 'played' of the chapter 'charset' answers. -/
import Derived.Test.YtkhdobhcnhaokaaVc
namespace Go.Proofs.Ytkhdobhcnhaokaa.Run
open Go Go.RowKit
set_option linter.unusedVariables false
set_option linter.unusedSimpArgs false

structure Act4 where
  what : Int
  place : Int
  byte : Int
  r : Int
def Act4.ok (a : Act4) : Prop := (0 ≤ a.what ∧ a.what ≤ 255) ∧ (-128 ≤ a.place ∧ a.place ≤ 127)
instance : Enc Act4 := ⟨4, fun a => [.int .u8 a.what, .int .i8 a.place, .int .u8 a.byte, .int .i32 a.r], fun _ => rfl, by decide⟩

def actF (c : Ch) (a : Act4) : Ch := if a.what % 4 = 0 then (c.desF a.place a.byte).1 else if a.what % 4 = 1 then (c.lockF a.byte).1 else if a.what % 4 = 2 then (c.singleF a.place).1 else (c.mapF a.r).1
def ch0 : Ch := ⟨0, 0, 0, 0, 0, 0⟩
def playF (L : List Act4) : Ch := (L.take 40).foldl actF ch0

theorem setF_ok (x : Int) : 0 ≤ (setF x).1 ∧ (setF x).1 ≤ 2 := by unfold setF; repeat (first | (split) | decide)
theorem desF_ok {c : Ch} (h : c.ok) (p x : Int) : (c.desF p x).1.ok := by
  obtain ⟨h1, h2, h3, h4, h5, h6⟩ := h
  have := setF_ok x
  unfold Ch.desF
  split
  · repeat (first | split | exact ⟨this, h2, h3, h4, h5, h6⟩ | exact ⟨h1, this, h3, h4, h5, h6⟩ | exact ⟨h1, h2, this, h4, h5, h6⟩ | exact ⟨h1, h2, h3, this, h5, h6⟩)
  · exact ⟨h1, h2, h3, h4, h5, h6⟩
theorem lockF_ok {c : Ch} (h : c.ok) (x : Int) : (c.lockF x).1.ok := by
  obtain ⟨h1, h2, h3, h4, h5, h6⟩ := h
  refine ⟨h1, h2, h3, h4, ?_, h6⟩
  simp only [Ch.lockF]
  split
  · exact .inr rfl
  · split
    · exact .inl rfl
    · exact h5
theorem singleF_ok {c : Ch} (h : c.ok) (x : Int) : (c.singleF x).1.ok := by
  obtain ⟨h1, h2, h3, h4, h5, h6⟩ := h
  refine ⟨h1, h2, h3, h4, h5, ?_⟩
  simp only [Ch.singleF]
  split
  · exact .inr (.inl rfl)
  · split
    · exact .inr (.inr rfl)
    · exact h6
theorem mapF_ok {c : Ch} (h : c.ok) (x : Int) : (c.mapF x).1.ok := by
  obtain ⟨h1, h2, h3, h4, h5, h6⟩ := h
  exact ⟨h1, h2, h3, h4, h5, .inl rfl⟩
theorem actF_ok {c : Ch} (h : c.ok) (a : Act4) : (actF c a).ok := by
  unfold actF
  split
  · exact desF_ok h _ _
  · split
    · exact lockF_ok h _
    · split
      · exact singleF_ok h _
      · exact mapF_ok h _
theorem fold_ok : ∀ (l : List Act4) {c : Ch}, c.ok → (l.foldl actF c).ok
  | [], _, h => h
  | a :: l, _, h => fold_ok l (actF_ok h a)
theorem ch0_ok : ch0.ok := by decide
theorem playF_ok (L : List Act4) : (playF L).ok := fold_ok _ ch0_ok

abbrev playedI (L : List Act4) (ad : Option Addr) (cap b1 b3 : Nat) (M M4 : Mem) : Nat → LS → Prop := fun k s => ∃ (i : Nat) (x : Ch) (M' : Mem), s = law05_played_l1_s (.slice ad L.length cap) (.int .i64 i) b1 (.int .u8 0) (.int .u8 0) (.int .u8 0) (.int .u8 0) (.int .u8 0) (.int .u8 0) b3 (.int .u8 x.a) (.int .u8 x.b) (.int .u8 x.c) (.int .u8 x.d) (.int .u8 x.e) (.int .u8 x.f) [] M' ∧
    Ext M M' ∧ M4.size ≤ M'.size ∧ x.ok ∧ x = (L.take i).foldl actF ch0 ∧ i ≤ 40 ∧ i ≤ L.length ∧ k = L.length - i

theorem played_W {M : Mem} (hM : M.base ≤ M.size) {v : Value} {L : List Act4} (h : Sl M v L) (hL : ∀ a ∈ L, a.ok) {Q : Value → Mem → Prop} (q : ∀ M', Ext M M' → Q (playF L).val M') : W funs chE (.func (.func n_law05_played) #[] #[]) [v] M Q := by
  obtain ⟨ad, cap, rfl, hcap, hs⟩ := id h
  refine law05_played_wp hM ?_
  refine ⟨rfl, fun b1 M2 hb1 hM2 => ⟨rfl, fun b3 M4 hb3 hM4 => ?_⟩⟩
  have e2 := Ext.push' hM2
  have e4 := Ext.push' hM4
  have s2 : M2.size = M.size + 1 := by rw [hM2]; rfl
  have s4 : M4.size = M.size + 2 := by rw [hM4, Mem.push_size, s2]
  refine ⟨law05_played_l1_m, playedI L ad cap b1 b3 M M4, ⟨L.length, 0, ch0, M4, by kernel_rfl, e2.trans e4, Nat.le_refl _, ch0_ok, rfl, by omega, by omega, rfl⟩, ?_⟩
  rintro k s ⟨i, x, M', rfl, eM, sM, hx, hxe, hi40, hil, rfl⟩
  have fin : ∀ {t : List LV}, (i = 40 ∨ ¬ i < L.length) → playF L = x := by
    intro t hh
    rw [hxe, playF]
    rcases hh with hh | hh
    · rw [hh]
    · rw [List.take_of_length_le (by omega), List.take_of_length_le (by omega)]
  refine law05_played_l1_wp (I := playedI L ad cap b1 b3 M M4) ?_
  refine ⟨_, h.len M', step_lss (wpIf.dec (fun h1 => step_lss (wpIf.dec (fun h2 => ?_) (fun h2 => ?_))) (fun h1 => ?_))⟩
  rotate_left
  · refine blockK.hit ?_
    refine law05_played_c0_wp ?_
    refine ⟨⟨rfl, rfl, by decide⟩, fun M1 hM1 => ?_⟩
    have := fin (t := []) (.inl (by omega))
    rw [this] at q
    refine q M1 ?_
    rw [hM1]
    exact eM.set (by omega) (by omega) _
  · refine blockK.hit ?_
    refine law05_played_c0_wp ?_
    refine ⟨⟨rfl, rfl, by decide⟩, fun M1 hM1 => ?_⟩
    have := fin (t := []) (.inr (by omega))
    rw [this] at q
    refine q M1 ?_
    rw [hM1]
    exact eM.set (by omega) (by omega) _
  have hlt : i < L.length := by omega
  obtain ⟨a, ha⟩ : ∃ a, L[i]? = some a := ⟨L[i], by simp [hlt]⟩
  have hao := hL a (List.mem_of_getElem? ha)
  obtain ⟨⟨w1, w2⟩, ⟨w3, w4⟩⟩ := hao
  have hs' := h.ext eM
  obtain ⟨p, hp, hat⟩ := hs'.addr (i := (i : Int)) (by omega) (by simpa using ha) (j := .i64) M'
  obtain ⟨q0, f0, l0⟩ := hat.field 0 (v := .int .u8 a.what) rfl M'
  obtain ⟨q1, f1, l1⟩ := hat.field 1 (v := .int .i8 a.place) rfl M'
  obtain ⟨q2, f2, l2⟩ := hat.field 2 (v := .int .u8 a.byte) rfl M'
  obtain ⟨q3, f3, l3⟩ := hat.field 3 (v := .int .i32 a.r) rfl M'
  have next : ∀ (x' : Ch) (M17 : Mem) (hx' : x'.ok) (he : x' = actF x a) (hM17 : ∃ c, M17 = M'.set b3 c), ∃ j, j < L.length - i ∧ playedI L ad cap b1 b3 M M4 j (law05_played_l1_s (.slice ad L.length cap) (.int .i64 ((i : Int) + 1)) b1 (.int .u8 0) (.int .u8 0) (.int .u8 0) (.int .u8 0) (.int .u8 0) (.int .u8 0) b3 (.int .u8 x'.a) (.int .u8 x'.b) (.int .u8 x'.c) (.int .u8 x'.d) (.int .u8 x'.e) (.int .u8 x'.f) [] M17) := by
    rintro x' M17 hx' he ⟨c, rfl⟩
    refine ⟨L.length - (i + 1), ?_, i + 1, x', M'.set b3 c, by kernel_rfl, eM.set (b := b3) (by omega) (by omega) c, sM, hx', ?_, by omega, hlt, rfl⟩
    · omega
    · rw [he, hxe, List.take_add_one, ha]
      simp [List.foldl_append]
  refine law05_played_c2_wp ?_
  refine ⟨p, hp, q0, f0, _, l0, step_rem8 (by decide) w1 (step_eql (wpIf.dec (fun c0 => ?_) (fun c0 => step_eql (wpIf.dec (fun c1 => ?_) (fun c1 => step_eql (wpIf.dec (fun c2 => ?_) (fun c2 => ?_)))))))⟩
  · refine ⟨p, hp, q1, f1, _, l1, step_conv (i64_ok (by omega) (by omega)) ⟨p, hp, q2, f2, _, l2, ?_⟩⟩
    refine des_W (x := x) ⟨KeepB.refl _ _, _, rfl, _, rfl, ⟨rfl, rfl, by decide⟩, fun M17 hM17 => step_add (by omega) (by omega) ?_⟩
    exact next _ M17 (desF_ok hx _ _) (by simp only [actF, if_pos c0]) ⟨_, hM17⟩
  · refine ⟨p, hp, q2, f2, _, l2, ?_⟩
    refine lock_W (x := x) ⟨KeepB.refl _ _, _, rfl, _, rfl, ⟨rfl, rfl, by decide⟩, fun M17 hM17 => step_add (by omega) (by omega) ?_⟩
    exact next _ M17 (lockF_ok hx _) (by simp only [actF, if_neg c0, if_pos c1]) ⟨_, hM17⟩
  · refine ⟨p, hp, q1, f1, _, l1, step_conv (i64_ok (by omega) (by omega)) ?_⟩
    refine single_W (x := x) ⟨KeepB.refl _ _, _, rfl, _, rfl, ⟨rfl, rfl, by decide⟩, fun M17 hM17 => step_add (by omega) (by omega) ?_⟩
    exact next _ M17 (singleF_ok hx _) (by simp only [actF, if_neg c0, if_neg c1, if_pos c2]) ⟨_, hM17⟩
  · refine ⟨p, hp, q3, f3, _, l3, ?_⟩
    refine map_W (x := x) hx ⟨KeepB.refl _ _, _, rfl, _, rfl, ⟨rfl, rfl, by decide⟩, fun M17 hM17 => step_add (by omega) (by omega) ?_⟩
    exact next _ M17 (mapF_ok hx _) (by simp only [actF, if_neg c0, if_neg c1, if_neg c2]) ⟨_, hM17⟩
end Go.Proofs.Ytkhdobhcnhaokaa.Run
