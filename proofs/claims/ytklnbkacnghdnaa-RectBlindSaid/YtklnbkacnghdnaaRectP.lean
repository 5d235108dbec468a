/- What copies, fills and erasures make of each other: plain Lean. -/
import Derived.Test.YtklnbkacnghdnaaRectB
import Derived.Test.YtklnbkacnghdnaaRowPB
namespace Go.Proofs.Ytklnbkacnghdnaa.Run
open Go Go.RowKit
set_option linter.unusedVariables false
set_option linter.unusedSimpArgs false

theorem breakF_no' {L : List Ce} {p : Int} (h : ¬ cutF L (clampN p L.length) = true) : breakF L p = L := by rw [breakF_clamp, if_neg h]
theorem brk2_same {L : List Ce} {x y : Int} (h1 : ¬ cutF L (clampN x L.length) = true) (h2 : ¬ cutF L (clampN y L.length) = true) : brk2 L x y = L := by
  unfold brk2; rw [breakF_no' h1, breakF_no' h2]
theorem brk2_twice (L : List Ce) (x y : Int) : brk2 (brk2 L x y) x y = brk2 L x y := by
  refine brk2_same (fun h => ?_) (fun h => ?_)
  · have := (brk2_cut L x y h).1; rw [brk2_len] at this; exact this rfl
  · have := (brk2_cut L x y h).2; rw [brk2_len] at this; exact this rfl
theorem brk2_again (L : List Ce) (x y : Int) : breakF (brk2 L x y) y = brk2 L x y := by
  refine breakF_no' fun h => ?_
  have := (brk2_cut L x y h).2; rw [brk2_len] at this; exact this rfl
theorem cutF_zero (L : List Ce) : ¬ cutF L 0 = true := fun h => by obtain ⟨a, b, h0, _⟩ := cutF_iff.1 h; omega
theorem cutF_end' {L : List Ce} {p : Nat} (h : L.length ≤ p) : ¬ cutF L p = true := fun hc => by
  obtain ⟨a, b, _, _, hb, _⟩ := cutF_iff.1 hc
  rw [List.getElem?_eq_none h] at hb; cases hb
theorem cutF_plain {L : List Ce} {p : Nat} {c : Ce} (hc : c.kind = 0) (h : L[p]? = some c ∨ L[p - 1]? = some c) : ¬ cutF L p = true := fun hq => by
  obtain ⟨a, b, _, ha, hb, h1, h2⟩ := cutF_iff.1 hq
  rcases h with h | h
  · rw [hb] at h; cases h; omega
  · rw [ha] at h; cases h; omega
theorem brk2_all (L : List Ce) {y : Int} (hy : (L.length : Int) ≤ y) : brk2 L 0 y = L := by
  refine brk2_same ?_ ?_
  · have : clampN 0 L.length = 0 := by unfold clampN; omega
    rw [this]; exact cutF_zero L
  · have : clampN y L.length = L.length := by unfold clampN; omega
    rw [this]; exact cutF_end' (Nat.le_refl _)

/-- A rectangle's row copied to its own place: its ends are broken, and nothing else. -/
theorem copyRow_own {L : List Ce} {m : Rc} (h : 0 ≤ m.l ∧ 0 ≤ m.c ∧ m.l + m.c ≤ L.length) : copyRow L L m m = brk2 L m.l (m.l + m.c) := by
  unfold copyRow
  rw [brk2_again]
  have hl := brk2_len L m.l (m.l + m.c)
  generalize brk2 L m.l (m.l + m.c) = B at hl
  obtain ⟨p, hp⟩ : ∃ p : Nat, m.l = p := ⟨m.l.toNat, by omega⟩
  obtain ⟨n, hn⟩ : ∃ n : Nat, m.c = n := ⟨m.c.toNat, by omega⟩
  rw [hp, hn, show ((p : Int) + (n : Nat)).toNat = p + n by omega, Int.toNat_natCast, Int.toNat_natCast]
  have : B.take p = (B.take (p + n)).take p := by rw [List.take_take, Nat.min_eq_left (by omega)]
  rw [this, List.take_append_drop, List.take_append_drop]

/-- What is erased twice is as erased at last. -/
theorem erase_twice (L : List Ce) {x y : Int} {z c : Ce} (hz : z.kind = 0) : eraseF (eraseF L x y z) x y c = eraseF L x y c := by
  by_cases h : clampN y L.length ≤ clampN x L.length
  · have e1 : ∀ c, eraseF L x y c = L := fun c => by unfold eraseF; rw [if_pos h]
    rw [e1, e1]
  have hx := clampN_le x L.length
  have hy := clampN_le y L.length
  have e1 : ∀ c, eraseF L x y c = (brk2 L (clampN x L.length : Nat) (clampN y L.length : Nat)).take (clampN x L.length) ++ List.replicate (clampN y L.length - clampN x L.length) c ++ (brk2 L (clampN x L.length : Nat) (clampN y L.length : Nat)).drop (clampN y L.length) := fun c => by unfold eraseF; rw [if_neg h]
  have hBl := brk2_len L (clampN x L.length : Nat) (clampN y L.length : Nat)
  rw [e1 z, e1 c]
  generalize brk2 L (clampN x L.length : Nat) (clampN y L.length : Nat) = B at hBl
  obtain ⟨E, hE⟩ : ∃ E, E = B.take (clampN x L.length) ++ List.replicate (clampN y L.length - clampN x L.length) z ++ B.drop (clampN y L.length) := ⟨_, rfl⟩
  have hEl : E.length = L.length := by rw [hE]; simp only [List.length_append, List.length_take, List.length_replicate, List.length_drop]; omega
  rw [← hE]
  have hBp : (B.take (clampN x L.length)).length = clampN x L.length := by rw [List.length_take]; omega
  unfold eraseF
  rw [hEl]
  generalize clampN x L.length = p at *
  generalize clampN y L.length = k at *
  have g1 : ∀ j, j < k - p → E[p + j]? = some z := fun j hj => by
    rw [hE, List.append_assoc, List.getElem?_append_right (by omega), hBp, List.getElem?_append_left (by rw [List.length_replicate]; omega), List.getElem?_replicate, if_pos (by omega)]
  have n1 : ¬ cutF E p = true := cutF_plain hz (.inl (by have := g1 0 (by omega); simpa using this))
  have n2 : ¬ cutF E k = true := cutF_plain hz (.inr (by have := g1 (k - p - 1) (by omega); rwa [show p + (k - p - 1) = k - 1 by omega] at this))
  have hb : brk2 E (p : Nat) (k : Nat) = E := brk2_same (by rw [clampN_nat (by omega)]; exact n1) (by rw [clampN_nat (by omega)]; exact n2)
  rw [if_neg h, hb, hE]
  have hq : (B.take p ++ List.replicate (k - p) z).length = k := by simp only [List.length_append, List.length_replicate]; omega
  congr 1
  · congr 1
    rw [List.append_assoc, List.take_append_of_le_length (by omega), List.take_take, Nat.min_self]
  · rw [List.drop_append, hq, Nat.sub_self, List.drop_zero, List.drop_of_length_le (by omega), List.nil_append]
theorem erase_all {L : List Ce} {C : Nat} (hC : L.length = C) (c : Ce) : eraseF L 0 C c = List.replicate C c := by
  unfold eraseF
  have h1 : clampN 0 L.length = 0 := by unfold clampN; omega
  have h2 : clampN (C : Int) L.length = C := by unfold clampN; omega
  rw [h1, h2]
  by_cases h : C ≤ 0
  · rw [if_pos h]
    have : C = 0 := by omega
    subst this
    rw [List.length_eq_zero_iff.1 hC]; rfl
  · rw [if_neg h, List.take_zero, List.nil_append, Nat.sub_zero, List.drop_of_length_le (by rw [brk2_len]; omega), List.append_nil]

/-! ### Grids -/

theorem eraseF_len' (L : List Ce) (x y : Int) (c : Ce) : (eraseF L x y c).length = L.length := by
  unfold eraseF
  split
  · rfl
  · have := clampN_le y L.length
    simp only [List.length_append, List.length_take, List.length_replicate, List.length_drop, brk2_len]; omega
theorem changed_flush {G : Gd} {C : Nat} (hC : Flush G C) {t n : Int} {F : Nat → List Ce} (hF : ∀ i, i < G.length → t ≤ i → (i : Int) < t + n → (F i).length = C) : Flush (changedF G t n F) C := by
  intro L hL
  obtain ⟨i, hi⟩ := List.mem_iff_getElem?.1 hL
  rw [changedF_get] at hi
  obtain ⟨K, hK, rfl⟩ := Option.map_eq_some_iff.1 hi
  split
  · rename_i h
    exact hF i (List.getElem?_eq_some_iff.1 hK).1 h.1 h.2
  · exact hC K (List.mem_of_getElem? hK)
theorem getD_some {G : Gd} {i : Nat} {L : List Ce} (h : G[i]? = some L) : G.getD i [] = L := by rw [List.getD_eq_getElem?_getD, h]; rfl
theorem getD_len {G : Gd} {C : Nat} (hC : Flush G C) {i : Nat} (hi : i < G.length) : (G.getD i []).length = C := by
  obtain ⟨L, hL⟩ : ∃ L, G[i]? = some L := ⟨_, List.getElem?_eq_getElem hi⟩
  rw [getD_some hL]; exact hC L (List.mem_of_getElem? hL)
theorem clipped_congr {G G' : Gd} {C : Nat} (hC : Flush G C) (hC' : Flush G' C) (hl : G.length = G'.length) (a : Rc) : clippedF G a = clippedF G' a := by
  unfold clippedF
  cases G with
  | nil => cases G' with
    | nil => rfl
    | cons L G' => simp at hl
  | cons K G => cases G' with
    | nil => simp at hl
    | cons L G' =>
      have h1 : K.length = C := hC K List.mem_cons_self
      have h2 : L.length = C := hC' L List.mem_cons_self
      simp only [h1, h2, hl]
theorem erase_flush {G : Gd} {C : Nat} (hC : Flush G C) (a : Rc) (c : Ce) : Flush (eraseG G a c) C := changed_flush hC fun i hi _ _ => by rw [eraseF_len']; exact getD_len hC hi
theorem copyRow_len {S L : List Ce} {f m : Rc} {C : Nat} (hS : S.length = C) (hL : L.length = C) (h : 0 ≤ f.l ∧ 0 ≤ m.l ∧ 0 ≤ m.c ∧ m.c ≤ f.c ∧ f.l + f.c ≤ C ∧ m.l + m.c ≤ C) : (copyRow S L f m).length = C := by
  unfold copyRow
  simp only [List.length_append, List.length_take, List.length_drop, brk2_len, breakF_len, hS, hL]
  omega
theorem copy_flush {G : Gd} {C : Nat} (hC : Flush G C) (a : Rc) (tr tc : Int) : Flush (copyG G a tr tc) C := by
  have w := clipped_within hC a
  obtain ⟨hm, h1, h2, _⟩ := comes_ok hC (clippedF G a) ⟨w.r, w.c⟩ tr tc
  refine changed_flush hC fun i hi i1 i2 => copyRow_len (getD_len hC ?_) (getD_len hC hi) ⟨w.l, hm.l, hm.c, h2, w.e, hm.e⟩
  have := w.b
  have := w.t
  have := hm.t
  omega
theorem copyG_len (G : Gd) (a : Rc) (tr tc : Int) : (copyG G a tr tc).length = G.length := changedF_len ..
theorem eraseG_len (G : Gd) (a : Rc) (c : Ce) : (eraseG G a c).length = G.length := changedF_len ..
theorem fillG_len (G : Gd) (a : Rc) (c : Ce) : (fillG G a c).length = G.length := changedF_len ..
theorem fill_flush {G : Gd} {C : Nat} (hC : Flush G C) (a : Rc) (c : Ce) : Flush (fillG G a c) C := erase_flush hC _ c

theorem rspan_own {f n m : Int} (h0 : 0 ≤ f) (hn : 0 < n) (hm : f + n ≤ m) : rspanF f n m = (f, f + n) := by
  unfold rspanF
  repeat' split
  all_goals first | omega | (apply Prod.ext <;> simp only <;> omega)
theorem clip_own {a : Rc} {R C : Int} (h : a.within R C) (hp : (0 < a.r ↔ 0 < a.c)) (hz : a.r = 0 → a = zeroR) : clipF a R C = a := by
  obtain ⟨h1, h2, h3, h4, h5, h6⟩ := h
  by_cases hr : 0 < a.r
  · unfold clipF
    rw [rspan_own h1 hr h5, rspan_own h2 (hp.1 hr) h6]
    have := hp.1 hr
    simp only
    rw [if_neg (by omega)]
    rw [show a.t + a.r - a.t = a.r by omega, show a.l + a.c - a.l = a.c by omega]
  · have := hz (by omega)
    subst this
    unfold clipF rspanF zeroR
    simp
theorem clip_zero {a : Rc} {R C : Int} (hR : 0 ≤ R) (hC : 0 ≤ C) : (clipF a R C).r = 0 → clipF a R C = zeroR := by
  unfold clipF
  split
  · intro _; rfl
  · intro h; simp only at h; omega
/-- a rectangle that was clipped is clipped -/
theorem clipped_own {G : Gd} {C : Nat} (hC : Flush G C) (h0 : G ≠ []) {a : Rc} : clippedF G (clipF a G.length C) = clipF a G.length C := by
  cases G with
  | nil => exact absurd rfl h0
  | cons L G =>
    have h1 : L.length = C := hC L List.mem_cons_self
    unfold clippedF
    simp only [h1]
    exact clip_own (clip_within (by omega) (by omega)) (clip_le (by omega) (by omega)).2.2 (clip_zero (by omega) (by omega))

theorem comes_own {G : Gd} {r : Rc} (h : clippedF G r = r) (h1 : 0 ≤ r.t) (h2 : 0 ≤ r.l) : comesF G r r.t r.l = r := by
  unfold comesF
  rw [if_neg (by omega)]
  exact h
/-- A rectangle copied to its own place. -/
theorem copy_own {G : Gd} {C : Nat} (hC : Flush G C) {r : Rc} (h : clippedF G r = r) : copyG G r r.t r.l = changedF G r.t r.r fun i => brk2 (G.getD i []) r.l (r.l + r.c) := by
  have w := clipped_within hC r
  rw [h] at w
  obtain ⟨w1, w2, w3, w4, w5, w6⟩ := w
  unfold copyG
  rw [h, comes_own h w1 w2]
  apply List.ext_getElem?
  intro i
  rw [changedF_get, changedF_get]
  cases hi : G[i]? with
  | none => rfl
  | some L =>
    simp only [Option.map_some, Option.some.injEq]
    split
    · rw [show (r.t + (i : Int) - r.t).toNat = i by omega, getD_some hi]
      have : L.length = C := hC L (List.mem_of_getElem? hi)
      exact copyRow_own ⟨w2, w4, by omega⟩
    · rfl
theorem copy_twice {G : Gd} {C : Nat} (hC : Flush G C) {r : Rc} (h : clippedF G r = r) : copyG (copyG G r r.t r.l) r r.t r.l = copyG G r r.t r.l := by
  have hC' := copy_flush hC r r.t r.l
  have h' : clippedF (copyG G r r.t r.l) r = r := by rw [clipped_congr hC' hC (copyG_len ..), h]
  rw [copy_own hC' h', copy_own hC h]
  apply List.ext_getElem?
  intro i
  rw [changedF_get, changedF_get]
  cases hi : G[i]? with
  | none => rfl
  | some L =>
    simp only [Option.map_some, Option.some.injEq]
    split
    · rename_i hin
      have : (changedF G r.t r.r fun i => brk2 (G.getD i []) r.l (r.l + r.c))[i]? = some (brk2 (G.getD i []) r.l (r.l + r.c)) := by rw [changedF_get, hi, Option.map_some, if_pos hin]
      rw [getD_some this, brk2_twice]
    · rfl
theorem copy_all {G : Gd} {C : Nat} (hC : Flush G C) (h0 : G ≠ []) (hC0 : 0 < C) : copyG G ⟨0, 0, G.length, C⟩ 0 0 = G := by
  have hGl : 0 < G.length := List.length_pos_iff.2 h0
  have h : clippedF G ⟨0, 0, G.length, C⟩ = ⟨0, 0, G.length, C⟩ := by
    cases G with
    | nil => exact absurd rfl h0
    | cons L G =>
      have h1 : L.length = C := hC L List.mem_cons_self
      unfold clippedF
      simp only [h1]
      refine clip_own ⟨by simp, by simp, by simp only; omega, by simp only; omega, by simp, by simp⟩ ?_ ?_
      · simp only [List.length_cons]; omega
      · intro h; simp only [List.length_cons] at h; omega
  have := copy_own hC h
  simp only at this
  rw [this]
  apply List.ext_getElem?
  intro i
  rw [changedF_get]
  cases hi : G[i]? with
  | none => rfl
  | some L =>
    have hL : L.length = C := hC L (List.mem_of_getElem? hi)
    simp only [Option.map_some, Option.some.injEq]
    split
    · rw [getD_some hi]; exact brk2_all L (by omega)
    · rfl
theorem fill_twice {G : Gd} {C : Nat} (hC : Flush G C) {a : Rc} {z c : Ce} (hz : 97 ≤ z.rune ∧ z.rune ≤ 122) (hc : 97 ≤ c.rune ∧ c.rune ≤ 122) : fillG (fillG G a z) a c = fillG G a c := by
  have hC' := fill_flush hC a z
  have h' : clippedF (fillG G a z) a = clippedF G a := clipped_congr hC' hC (fillG_len ..) a
  have e2 : fillG (fillG G a z) a c = eraseG (fillG G a z) a c := by
    generalize fillG G a z = K
    unfold fillG; rw [if_pos hc]
  have e3 : fillG G a c = eraseG G a c := by unfold fillG; rw [if_pos hc]
  have e4 : fillG G a z = eraseG G a z := by unfold fillG; rw [if_pos hz]
  rw [e2, e3]
  rw [e4] at h' ⊢
  unfold eraseG at h' ⊢
  rw [h']
  apply List.ext_getElem?
  intro i
  rw [changedF_get, changedF_get, changedF_get]
  cases hi : G[i]? with
  | none => rfl
  | some L =>
    simp only [Option.map_some, Option.some.injEq]
    split
    · rename_i hin
      have : (changedF G (clippedF G a).t (clippedF G a).r fun i => eraseF (G.getD i []) (clippedF G a).l ((clippedF G a).l + (clippedF G a).c) { z with kind := 0 })[i]? = some (eraseF (G.getD i []) (clippedF G a).l ((clippedF G a).l + (clippedF G a).c) { z with kind := 0 }) := by rw [changedF_get, hi, Option.map_some, if_pos hin]
      rw [getD_some this, erase_twice _ rfl]
    · rfl
theorem erase_whole {G : Gd} {C : Nat} (hC : Flush G C) (h0 : G ≠ []) (hC0 : 0 < C) {c : Ce} (hk : c.kind = 0) {i k : Nat} (hi : i < G.length) (hkC : k < C) : ∃ L, (eraseG G ⟨0, 0, G.length, C⟩ c)[i]? = some L ∧ L[k]? = some c := by
  have h : clippedF G ⟨0, 0, G.length, C⟩ = ⟨0, 0, G.length, C⟩ := by
    cases G with
    | nil => exact absurd rfl h0
    | cons L G =>
      have h1 : L.length = C := hC L List.mem_cons_self
      unfold clippedF
      simp only [h1]
      refine clip_own ⟨by simp, by simp, by simp only; omega, by simp only; omega, by simp, by simp⟩ ?_ ?_
      · simp only [List.length_cons]; omega
      · intro h; simp only [List.length_cons] at h; omega
  obtain ⟨K, hK⟩ : ∃ K, G[i]? = some K := ⟨_, List.getElem?_eq_getElem hi⟩
  have hcc : ({ c with kind := 0 } : Ce) = c := by cases c; simp only at hk; subst hk; rfl
  refine ⟨List.replicate C c, ?_, by rw [List.getElem?_replicate, if_pos hkC]⟩
  unfold eraseG
  rw [h, changedF_get, hK, Option.map_some, if_pos ⟨by simp, by simp only; omega⟩, getD_some hK, hcc]
  simp only [Int.zero_add]
  rw [erase_all (hC K (List.mem_of_getElem? hK))]
end Go.Proofs.Ytklnbkacnghdnaa.Run
