/- The law CharsetApart: run on whatever it is given, it answers true. -/
import Derived.Test.YtkhdobhcnhaokaaOnce
namespace Go.Proofs.Ytkhdobhcnhaokaa.Run
open Go Go.RowKit
set_option linter.unusedVariables false
set_option linter.unusedSimpArgs false

theorem tbl_inj : ∀ i j : Fin 32, tbl.getD i.val 0 = tbl.getD j.val 0 → i = j := by decide +kernel
theorem tbl_low : ∀ i : Fin 32, tbl.getD i.val 0 = 32 ∨ 128 ≤ tbl.getD i.val 0 := by decide +kernel

theorem tbl_low' {r : Int} (h1 : 95 ≤ r) (h2 : r ≤ 126) : tbl.getD (r - 95).toNat 0 = 32 ∨ 128 ≤ tbl.getD (r - 95).toNat 0 := tbl_low ⟨(r - 95).toNat, by omega⟩
theorem tbl_inj' {r s : Int} (h1 : 95 ≤ r) (h2 : r ≤ 126) (h3 : 95 ≤ s) (h4 : s ≤ 126) (h : tbl.getD (r - 95).toNat 0 = tbl.getD (s - 95).toNat 0) : r = s := by
  have := congrArg Fin.val (tbl_inj ⟨(r - 95).toNat, by omega⟩ ⟨(s - 95).toNat, by omega⟩ h)
  simp only at this
  omega

theorem ofF_apart {s p q : Int} (hp : 32 ≤ p ∧ p ≤ 126) (hq : 32 ≤ q ∧ q ≤ 126) (hb : ¬ (s = 1 ∧ ofF s p = 32 ∧ ofF s q = 32)) (h : ofF s p = ofF s q) : p = q := by
  by_cases h2 : s = 2
  · subst h2
    unfold ofF at h
    simp only [true_and, show ¬ ((2 : Int) = 1) by decide, false_and, if_false] at h
    split at h
    · split at h
      · omega
      · omega
    · split at h
      · omega
      · exact h
  · by_cases h1 : s = 1
    · subst h1
      unfold ofF at h hb
      simp only [show ¬ ((1 : Int) = 2) by decide, false_and, if_false, true_and] at h hb
      by_cases a : 95 ≤ p ∧ p ≤ 126
      · by_cases b : 95 ≤ q ∧ q ≤ 126
        · rw [if_pos a, if_pos b] at h
          exact tbl_inj' a.1 a.2 b.1 b.2 h
        · rw [if_pos a, if_neg b] at h
          rw [if_pos a, if_neg b] at hb
          rcases tbl_low' a.1 a.2 with c | c
          · exact absurd ⟨c, h.symm.trans c⟩ hb
          · omega
      · by_cases b : 95 ≤ q ∧ q ≤ 126
        · rw [if_neg a, if_pos b] at h
          rw [if_neg a, if_pos b] at hb
          rcases tbl_low' b.1 b.2 with c | c
          · exact absurd ⟨h.trans c, c⟩ hb
          · omega
        · rw [if_neg a, if_neg b] at h
          exact h
    · unfold ofF at h
      simpa [h1, h2] using h
theorem ofF_out {s r : Int} (h : r < 32 ∨ 126 < r) : ofF s r = r := by
  unfold ofF
  rw [if_neg (by omega), if_neg (by omega)]

abbrev apartI (M : Mem) (a b : Int) (v : Value) : Nat → LS → Prop := fun k s => ∃ (i : Int) (M' : Mem), s = law05_CharsetApart_l1_s (.int .i32 a) (.int .i32 b) v (.int .i64 i) [] M' ∧ Ext M M' ∧ 0 ≤ i ∧ i ≤ 3 ∧ k = (3 - i).toNat
abbrev apartJ (M : Mem) (a b : Int) (v : Value) (i w1 w2 : Int) : Nat → LS → Prop := fun k s => ∃ (n : Int) (M' : Mem), s = law05_CharsetApart_l4_s (.int .i32 a) (.int .i32 b) v (.int .i64 i) (.agg #[.int .i32 a, .int .i32 b, .int .i32 w1, .int .i32 w2]) (.int .i64 n) [] M' ∧ Ext M M' ∧ 0 ≤ n ∧ n ≤ 2 ∧ k = (2 - n).toNat

theorem bool_eq_neq {p q : Prop} [Decidable p] [Decidable q] (h : p ↔ q) : binV .neq 1 [] (.bool (decide p)) (.bool (decide q)) = some (.bool false) := by
  rw [bool_neq]
  by_cases hp : p
  · rw [decide_eq_true hp, decide_eq_true (h.1 hp)]; rfl
  · rw [decide_eq_false hp, decide_eq_false (fun hq => hp (h.2 hq))]; rfl

set_option maxHeartbeats 2000000 in
theorem charsetApart_W {M : Mem} (hM : M.base ≤ M.size) {v : Value} {L : List Act4} (h : Sl M v L) (hL : ∀ a ∈ L, a.ok) (a b : Int) {Q : Value → Mem → Prop} (q : ∀ M', Q (.bool true) M') :
    W funs chE (.func (.func n_law05_CharsetApart) #[] #[]) [.int .i32 a, .int .i32 b, v] M Q := by
  obtain ⟨ad, cap, rfl, hcap, hs⟩ := id h
  refine law05_CharsetApart_wp hM (works_W ⟨_, rfl, wpIf.ff ?_⟩)
  refine ⟨law05_CharsetApart_l1_m, apartI M a b (.slice ad L.length cap), ⟨3, 0, M, rfl, Ext.refl M, by omega, by omega, rfl⟩, ?_⟩
  rintro k s ⟨i, M', rfl, eM, h0, h3, rfl⟩
  refine law05_CharsetApart_l1_wp (I := apartI M a b (.slice ad L.length cap)) ?_
  refine step_lss (wpIf.dec (fun h1 => ?_) (fun h1 => ?_))
  rotate_left
  · refine blockK.hit (law05_CharsetApart_c0_wp ?_)
    have hM' := eM.ok hM
    refine played_W hM' (h.ext eM) hL fun M5 e5 => ?_
    have hx := playF_ok L
    generalize playF L = x at hx ⊢
    refine ⟨rfl, fun b3 M4 _ _ => ⟨⟨rfl, rfl, by decide⟩, fun M6 _ => ?_⟩⟩
    refine LGetN.as x.val (by exact Nat.le_refl 6) rfl (map_W hx ⟨KeepB.refl _ _, _, rfl, _, rfl, rfl, fun b11 M12 _ _ => ⟨⟨rfl, rfl, by decide⟩, fun M13 _ => ?_⟩⟩)
    refine of_W ⟨KeepB.refl _ _, step_eql (wpIf.dec (fun _ => ?_) (fun d => ?_))⟩
    · refine step_geq (wpIf.dec (fun c1 => step_leq (wpIf.dec (fun c2 => q _) (fun c2 => step_eql ?_))) (fun c1 => step_eql ?_))
      · have : (x.mapF a).2 = a := ofF_out (.inr (by omega))
        rw [decide_eq_true this]; exact q _
      · have : (x.mapF a).2 = a := ofF_out (.inl (by omega))
        rw [decide_eq_true this]; exact q _
    · exfalso; apply d
      unfold ofF
      simp
  · obtain ⟨w1, hw1⟩ : ∃ w1 : Int, ∃ z1 z2, binV .and 0 [] (.int .i32 a) (.int .i32 127) = some z1 ∧ binV .rem 0 [] z1 (.int .i32 95) = some z2 ∧ binV .add 0 [] (.int .i32 32) z2 = some (.int .i32 w1) := ⟨_, _, _, rfl, rfl, rfl⟩
    obtain ⟨w2, hw2⟩ : ∃ w1 : Int, ∃ z1 z2, binV .and 0 [] (.int .i32 b) (.int .i32 127) = some z1 ∧ binV .rem 0 [] z1 (.int .i32 95) = some z2 ∧ binV .add 0 [] (.int .i32 32) z2 = some (.int .i32 w1) := ⟨_, _, _, rfl, rfl, rfl⟩
    obtain ⟨z1, z2, g1, g2, g3⟩ := hw1
    obtain ⟨z3, z4, g4, g5, g6⟩ := hw2
    refine ⟨.agg #[.int .i32 a, .int .i32 b], rfl, _, g1, _, g2, _, g3, _, g4, _, g5, _, g6, .agg #[.int .i32 w1, .int .i32 w2], rfl, .agg #[.int .i32 a, .int .i32 b, .int .i32 w1, .int .i32 w2], rfl, ?_⟩
    clear g1 g2 g3 g4 g5 g6
    refine ⟨law05_CharsetApart_l4_m, apartJ M a b (.slice ad L.length cap) i w1 w2, ⟨2, 0, M', rfl, eM, by omega, by omega, rfl⟩, ?_⟩
    rintro k s ⟨n, M₂, rfl, eM2, n0, n2, rfl⟩
    refine law05_CharsetApart_l4_wp (I := apartJ M a b (.slice ad L.length cap) i w1 w2) ?_
    refine step_lss (wpIf.dec (fun h2 => ?_) (fun h2 => ?_))
    rotate_left
    · refine blockK.hit (law05_CharsetApart_c3_wp ?_)
      refine step_lss (wpIf.dec (fun c1 => of_W (step_neq (wpIf.dec (fun d => ?_) (fun _ => law05_CharsetApart_c2_wp (ar := none) (step_add (by omega) (by omega) ?_))))) (fun c1 => step_gtr (wpIf.dec (fun c2 => of_W (step_neq (wpIf.dec (fun d => ?_) (fun _ => law05_CharsetApart_c2_wp (ar := none) (step_add (by omega) (by omega) ?_))))) (fun c2 => law05_CharsetApart_c2_wp (ar := none) (step_add (by omega) (by omega) ?_)))))
      · exact absurd (ofF_out (.inl (by omega))) d
      · exact ⟨(3 - (i + 1)).toNat, by omega, i + 1, _, rfl, eM2, by omega, by omega, rfl⟩
      · exact absurd (ofF_out (.inr (by omega))) d
      · exact ⟨(3 - (i + 1)).toNat, by omega, i + 1, _, rfl, eM2, by omega, by omega, rfl⟩
      · exact ⟨(3 - (i + 1)).toNat, by omega, i + 1, _, rfl, eM2, by omega, by omega, rfl⟩
    · have hi : i = 0 ∨ i = 1 ∨ i = 2 := by omega
      obtain ⟨p, r, hpr⟩ : ∃ p r : Int, opSem (.idxA 2 (some 2) 2 (.const (.agg #[.int .i32 a, .int .i32 b, .int .i32 w1, .int .i32 w2])) (.const (.int .i64 n))) [] M₂ = some (.agg #[.int .i32 p, .int .i32 r], M₂) := by
        have : n = 0 ∨ n = 1 := by omega
        rcases this with rfl | rfl
        · exact ⟨a, b, rfl⟩
        · exact ⟨w1, w2, rfl⟩
      have sM2 := eM2.size
      refine ⟨_, hpr, rfl, fun b3 M4 hb3 hM4 => ⟨⟨rfl, rfl, by decide⟩, fun M5 hM5 => ?_⟩⟩
      have e5 : Ext M M5 := by
        have e4 : Ext M M4 := eM2.trans (Ext.push' hM4)
        have s4 : M4.size = M₂.size + 1 := by rw [hM4]; rfl
        rw [hM5]; exact e4.set (by omega) (by omega) _
      clear hpr
      refine ⟨by decide, LGet.mk (v := .int .i32 p) rfl (step_geq (wpIf.dec (fun c1 => ⟨by decide, LGet.mk (v := .int .i32 p) rfl (step_leq (wpIf.dec (fun c2 => ⟨by decide, LGet.mk (v := .int .i32 r) rfl (step_geq (wpIf.dec (fun c3 => ⟨by decide, LGet.mk (v := .int .i32 r) rfl (step_leq ?_)⟩) (fun c3 => ?_)))⟩) (fun c2 => ?_)))⟩) (fun c1 => ?_)))⟩
      have iff : (32 ≤ p ∧ p ≤ 126) → (32 ≤ r ∧ r ≤ 126) → ¬ (i = 1 ∧ ofF i p = 32 ∧ ofF i r = 32) → (ofF i p = ofF i r ↔ p = r) := fun x y z => ⟨ofF_apart x y z, fun e => by rw [e]⟩
      · refine law05_CharsetApart_c5_wp ⟨by decide, LGet.mk (v := .int .i32 p) rfl (of_W ⟨KeepB.refl _ _, by decide, LGet.mk (v := .int .i32 r) rfl (of_W ⟨KeepB.refl _ _, step_eql (wpIf.dec (fun d1 => step_eql (wpIf.dec (fun d2 => step_eql (wpIf.dec (fun c4 => ?_) (fun c4 => ?_))) (fun d2 => wpIf.dec (fun c4 => ?_) (fun c4 => ?_)))) (fun d1 => wpIf.dec (fun c4 => ?_) (fun c4 => ?_)))⟩)⟩)⟩
        · refine step_eql ⟨by decide, LGet.mk (v := .int .i32 p) rfl ⟨by decide, LGet.mk (v := .int .i32 r) rfl (step_eql ?_)⟩⟩
          by_cases hb : ofF i r = 32
          · refine ⟨_, bool_neq _ _, wpIf.mk (fun _ => ⟨_, rfl, ?_⟩) (fun _ => ?_)⟩
            · rw [decide_eq_true hb]
              refine wpIf.ff ?_
              exact step_add (by omega) (by omega) ⟨(2 - (n + 1)).toNat, by omega, n + 1, _, rfl, e5, by omega, by omega, rfl⟩
            · exact step_add (by omega) (by omega) ⟨(2 - (n + 1)).toNat, by omega, n + 1, _, rfl, e5, by omega, by omega, rfl⟩
          · refine ⟨_, bool_eq_neq (iff ⟨c1, c2⟩ ⟨c3, c4⟩ (fun z => hb z.2.2)), wpIf.ff ?_⟩
            exact step_add (by omega) (by omega) ⟨(2 - (n + 1)).toNat, by omega, n + 1, _, rfl, e5, by omega, by omega, rfl⟩
        · exact step_add (by omega) (by omega) ⟨(2 - (n + 1)).toNat, by omega, n + 1, _, rfl, e5, by omega, by omega, rfl⟩
        · refine step_eql ⟨by decide, LGet.mk (v := .int .i32 p) rfl ⟨by decide, LGet.mk (v := .int .i32 r) rfl (step_eql ⟨_, bool_eq_neq (iff ⟨c1, c2⟩ ⟨c3, c4⟩ (fun z => d2 z.2.1)), wpIf.ff ?_⟩)⟩⟩
          exact step_add (by omega) (by omega) ⟨(2 - (n + 1)).toNat, by omega, n + 1, _, rfl, e5, by omega, by omega, rfl⟩
        · exact step_add (by omega) (by omega) ⟨(2 - (n + 1)).toNat, by omega, n + 1, _, rfl, e5, by omega, by omega, rfl⟩
        · refine step_eql ⟨by decide, LGet.mk (v := .int .i32 p) rfl ⟨by decide, LGet.mk (v := .int .i32 r) rfl (step_eql ⟨_, bool_eq_neq (iff ⟨c1, c2⟩ ⟨c3, c4⟩ (fun z => d1 z.1)), wpIf.ff ?_⟩)⟩⟩
          exact step_add (by omega) (by omega) ⟨(2 - (n + 1)).toNat, by omega, n + 1, _, rfl, e5, by omega, by omega, rfl⟩
        · exact step_add (by omega) (by omega) ⟨(2 - (n + 1)).toNat, by omega, n + 1, _, rfl, e5, by omega, by omega, rfl⟩
      all_goals
        refine law05_CharsetApart_c5_wp ⟨by decide, LGet.mk (v := .int .i32 p) rfl (of_W ⟨KeepB.refl _ _, by decide, LGet.mk (v := .int .i32 r) rfl (of_W ⟨KeepB.refl _ _, step_eql (wpIf.dec (fun d1 => step_eql (wpIf.dec (fun d2 => step_eql (wpIf.ff ?_)) (fun d2 => wpIf.ff ?_))) (fun d1 => wpIf.ff ?_))⟩)⟩)⟩
        all_goals exact step_add (by omega) (by omega) ⟨(2 - (n + 1)).toNat, by omega, n + 1, _, rfl, e5, by omega, by omega, rfl⟩
end Go.Proofs.Ytkhdobhcnhaokaa.Run
