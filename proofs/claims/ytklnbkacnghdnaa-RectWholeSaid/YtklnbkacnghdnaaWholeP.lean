/- What an act makes of the cells of a grid: those of its rectangle are there, the others stay, but for halves of pairs that are broken. -/
import Derived.Test.YtklnbkacnghdnaaRectP
import Derived.Test.YtklnbkacnghdnaaAct
namespace Go.Proofs.Ytklnbkacnghdnaa.Run
open Go Go.RowKit
set_option linter.unusedVariables false
set_option linter.unusedSimpArgs false
def WhG (G : Gd) : Prop := ∀ L ∈ G, Wh L
def okW (d c : Ce) : Prop := d = c ∨ (c.kind ≠ 0 ∧ d = c.bare)
theorem okW.rfl' (c : Ce) : okW c c := .inl rfl
theorem okW.trans {e d c : Ce} (h : okW e d) (k : okW d c) : okW e c := by
  rcases k with rfl | ⟨k1, rfl⟩
  · exact h
  · rcases h with rfl | ⟨h1, _⟩
    · exact .inr ⟨k1, rfl⟩
    · exact absurd rfl h1
theorem clampN_at {x : Int} {n : Nat} (h0 : 0 ≤ x) (h : x ≤ n) : clampN x n = x.toNat := by unfold clampN; omega
theorem break_cell {L : List Ce} {k : Nat} {c : Ce} (hc : L[k]? = some c) (x : Int) : ∃ d, (breakF L x)[k]? = some d ∧ okW d c := by
  rw [breakF_get, hc]
  refine ⟨_, rfl, ?_⟩
  split
  · rename_i h
    obtain ⟨h1, h2⟩ := h
    obtain ⟨a, b, h0, ha, hb, k1, k2⟩ := cutF_iff.1 h1
    refine .inr ⟨?_, rfl⟩
    rcases h2 with h2 | h2
    · rw [show clampN x L.length - 1 = k by omega, hc] at ha
      cases ha; omega
    · rw [← h2, hc] at hb
      cases hb; omega
  · exact .inl rfl
theorem brk2_cell {L : List Ce} {k : Nat} {c : Ce} (hc : L[k]? = some c) (x y : Int) : ∃ d, (brk2 L x y)[k]? = some d ∧ okW d c := by
  obtain ⟨d, h1, h2⟩ := break_cell hc x
  obtain ⟨e, h3, h4⟩ := break_cell h1 y
  exact ⟨e, h3, h4.trans h2⟩
theorem erase_cell {L : List Ce} {x y : Int} {z : Ce} (h : 0 ≤ x ∧ x ≤ y ∧ y ≤ L.length) {k : Nat} {c : Ce} (hc : L[k]? = some c) : ∃ d, (eraseF L x y z)[k]? = some d ∧ (if x ≤ k ∧ (k : Int) < y then d = z else okW d c) := by
  unfold eraseF
  rw [clampN_at (by omega) (by omega), clampN_at (by omega) (by omega)]
  by_cases hxy : y.toNat ≤ x.toNat
  · rw [if_pos hxy]
    exact ⟨c, hc, by rw [if_neg (by omega)]; exact .inl rfl⟩
  rw [if_neg hxy]
  have hB := brk2_len L (x.toNat : Nat) (y.toNat : Nat)
  obtain ⟨d, hd, hok⟩ := brk2_cell hc (x.toNat : Nat) (y.toNat : Nat)
  generalize brk2 L (x.toNat : Nat) (y.toNat : Nat) = B at hB hd
  have t1 : (B.take x.toNat).length = x.toNat := by rw [List.length_take]; omega
  by_cases c1 : (k : Int) < x
  · exact ⟨d, by rw [List.append_assoc, List.getElem?_append_left (by rw [t1]; omega), List.getElem?_take, if_pos (by omega)]; exact hd, by rw [if_neg (by omega)]; exact hok⟩
  · by_cases c2 : (k : Int) < y
    · exact ⟨z, by rw [List.append_assoc, List.getElem?_append_right (by rw [t1]; omega), t1, List.getElem?_append_left (by rw [List.length_replicate]; omega), List.getElem?_replicate, if_pos (by omega)], by rw [if_pos ⟨by omega, c2⟩]⟩
    · refine ⟨d, ?_, by rw [if_neg (by omega)]; exact hok⟩
      rw [List.getElem?_append_right (by rw [List.length_append, t1, List.length_replicate]; omega), List.length_append, t1, List.length_replicate, List.getElem?_drop, ← hd]
      congr 1
      omega
theorem copy_cell {S L : List Ce} {f m : Rc} {C : Nat} (hS : S.length = C) (hL : L.length = C) (h1 : 0 ≤ f.l) (h2 : 0 ≤ m.l) (h3 : 0 ≤ m.c) (h4 : m.c ≤ f.c) (h5 : f.l + f.c ≤ C) (h6 : m.l + m.c ≤ C) {k : Nat} {c : Ce} (hc : L[k]? = some c) :
    ∃ d, (copyRow S L f m)[k]? = some d ∧ (if m.l ≤ k ∧ (k : Int) < m.l + m.c then ∃ s, S[(f.l + k - m.l).toNat]? = some s ∧ okW d s else okW d c) := by
  unfold copyRow
  have hB := brk2_len L m.l (m.l + m.c)
  obtain ⟨d, hd, hok⟩ := brk2_cell hc m.l (m.l + m.c)
  generalize brk2 L m.l (m.l + m.c) = B at hB hd
  have hTl : (breakF (brk2 S f.l (f.l + m.c)) (f.l + f.c)).length = S.length := by rw [breakF_len, brk2_len]
  have t1 : (B.take m.l.toNat).length = m.l.toNat := by rw [List.length_take]; omega
  have t2 : (((breakF (brk2 S f.l (f.l + m.c)) (f.l + f.c)).take (f.l + m.c).toNat).drop f.l.toNat).length = m.c.toNat := by rw [List.length_drop, List.length_take, hTl]; omega
  by_cases c1 : (k : Int) < m.l
  · exact ⟨d, by rw [List.append_assoc, List.getElem?_append_left (by rw [t1]; omega), List.getElem?_take, if_pos (by omega)]; exact hd, by rw [if_neg (by omega)]; exact hok⟩
  · by_cases c2 : (k : Int) < m.l + m.c
    · obtain ⟨s, hs⟩ : ∃ s, S[(f.l + k - m.l).toNat]? = some s := ⟨_, List.getElem?_eq_getElem (by omega)⟩
      obtain ⟨e, he, oke⟩ := brk2_cell hs f.l (f.l + m.c)
      obtain ⟨g, hg, okg⟩ := break_cell he (f.l + f.c)
      refine ⟨g, ?_, by rw [if_pos ⟨by omega, c2⟩]; exact ⟨s, hs, okg.trans oke⟩⟩
      rw [List.append_assoc, List.getElem?_append_right (by rw [t1]; omega), t1, List.getElem?_append_left (by rw [t2]; omega), List.getElem?_drop, List.getElem?_take, if_pos (by omega), ← hg]
      congr 1
      omega
    · refine ⟨d, ?_, by rw [if_neg (by omega)]; exact hok⟩
      rw [List.getElem?_append_right (by rw [List.length_append, t1, t2]; omega), List.length_append, t1, t2, List.getElem?_drop, ← hd]
      congr 1
      omega
theorem clippedF_of {G : Gd} {C : Nat} (hC : Flush G C) (h0 : G ≠ []) (a : Rc) : clippedF G a = clipF a G.length C := by
  cases G with
  | nil => exact absurd rfl h0
  | cons L G => unfold clippedF; simp only; rw [hC L List.mem_cons_self]
def comesA (G : Gd) (C : Nat) (a : An) : Rc :=
  if (a.what % 8 > 3 ∧ (smallF a.row < 0 ∨ smallF a.col < 0)) ∨ (a.what % 8 < 2 ∧ a.runes % 8 = 7) then zeroR
  else if a.what % 8 > 3 then clipF ⟨smallF a.row, smallF a.col, (clipF a.rect G.length C).r, (clipF a.rect G.length C).c⟩ G.length C
  else clipF ⟨(clipF a.rect G.length C).t, (clipF a.rect G.length C).l, (clipF a.rect G.length C).r, (clipF a.rect G.length C).c⟩ G.length C
def inR (m : Rc) (i k : Int) : Prop := (m.t ≤ i ∧ i < m.t + m.r) ∧ m.l ≤ k ∧ k < m.l + m.c
instance (m : Rc) (i k : Int) : Decidable (inR m i k) := by unfold inR; infer_instance
def wasA (G : Gd) (C : Nat) (a : An) (i k : Int) (s : Ce) : Prop :=
  if a.what % 8 < 2 then s = acellF a else if a.what % 8 < 4 then s = blankF (acellF a).attr (acellF a).label
  else ∃ L, G[((clipF a.rect G.length C).t + i - (comesA G C a).t).toNat]? = some L ∧ L[((clipF a.rect G.length C).l + k - (comesA G C a).l).toNat]? = some s
theorem clip_own' {a : Rc} {R C : Nat} : clipF ⟨(clipF a R C).t, (clipF a R C).l, (clipF a R C).r, (clipF a R C).c⟩ R C = clipF a R C := by
  have hw := clip_within (a := a) (R := (R : Int)) (C := (C : Int)) (by omega) (by omega)
  have hl := clip_le (a := a) (R := (R : Int)) (C := (C : Int)) (by omega) (by omega)
  exact clip_own hw hl.2.2 (clip_zero (by omega) (by omega))
theorem erase_grid {G : Gd} {C : Nat} (hC : Flush G C) (r : Rc) (z : Ce) {i k : Nat} {L : List Ce} {c : Ce} (hL : G[i]? = some L) (hc : L[k]? = some c) :
    ∃ K d, (eraseG G r z)[i]? = some K ∧ K[k]? = some d ∧ (if inR (clippedF G r) i k then d = { z with kind := 0 } else okW d c) := by
  unfold eraseG
  rw [changedF_get, hL, Option.map_some]
  have hw := clipped_within hC r
  have hLl := hC L (List.mem_of_getElem? hL)
  have w1 := hw.l; have w2 := hw.c; have w3 := hw.e
  split
  · rename_i hr
    rw [getD_some hL]
    obtain ⟨d, h1, h2⟩ := erase_cell (L := L) (x := (clippedF G r).l) (y := (clippedF G r).l + (clippedF G r).c) (z := { z with kind := 0 }) ⟨w1, by omega, by omega⟩ hc
    refine ⟨_, d, rfl, h1, ?_⟩
    by_cases hk : (clippedF G r).l ≤ k ∧ (k : Int) < (clippedF G r).l + (clippedF G r).c
    · rw [if_pos hk] at h2
      rw [if_pos (show inR _ _ _ from ⟨hr, hk⟩)]; exact h2
    · rw [if_neg hk] at h2
      rw [if_neg (show ¬ inR _ _ _ from fun h => hk h.2)]; exact h2
  · rename_i hr
    exact ⟨L, c, rfl, hc, by rw [if_neg (show ¬ inR _ _ _ from fun h => hr h.1)]; exact .inl rfl⟩
theorem zero_in (i k : Nat) : ¬ inR zeroR i k := by
  unfold inR zeroR
  simp only
  omega
theorem does_cell {G : Gd} {C : Nat} (hC : Flush G C) (h0 : G ≠ []) {a : An} (ha : a.ok) {i k : Nat} {L : List Ce} {c : Ce} (hL : G[i]? = some L) (hc : L[k]? = some c) :
    ∃ K d, (doesG a G)[i]? = some K ∧ K[k]? = some d ∧ (if inR (comesA G C a) i k then ∃ s, wasA G C a i k s ∧ okW d s else okW d c) := by
  have hm : ∀ r, clippedF G r = clipF r G.length C := clippedF_of hC h0
  have hw := ha.what
  have hwhat : a.what % 8 = 0 ∨ a.what % 8 = 1 ∨ a.what % 8 = 2 ∨ a.what % 8 = 3 ∨ 3 < a.what % 8 := by omega
  by_cases c01 : a.what % 8 = 0 ∨ a.what % 8 = 1
  · have e : doesG a G = fillG G a.rect (acellF a) := by unfold doesG; rw [if_pos c01]
    rw [e]
    unfold fillG
    have hk0 : (acellF a).kind = 0 := by unfold acellF; split <;> rfl
    have hz : { acellF a with kind := 0 } = acellF a := by
      generalize acellF a = x at hk0
      obtain ⟨_, _, _, kd, _, _⟩ := x
      simp only at hk0
      subst hk0; rfl
    by_cases hr : a.runes % 8 = 7
    · have hcm : comesA G C a = zeroR := by unfold comesA; rw [if_pos (.inr ⟨by omega, hr⟩)]
      have hno : ¬ (97 ≤ (acellF a).rune ∧ (acellF a).rune ≤ 122) := by
        unfold acellF
        rw [if_pos hr]
        have : (a.runes / 8 % 4).toNat = 0 ∨ (a.runes / 8 % 4).toNat = 1 ∨ (a.runes / 8 % 4).toNat = 2 ∨ (a.runes / 8 % 4).toNat = 3 := by omega
        simp only
        rcases this with e | e | e | e <;> rw [e] <;> simp [odds]
      rw [if_neg hno]
      obtain ⟨K, d, h1, h2, h3⟩ := erase_grid hC zeroR (acellF a) hL hc
      refine ⟨K, d, h1, h2, ?_⟩
      have hzz : clippedF G zeroR = zeroR := by
        rw [hm]
        exact clip_own (zeroR_within _ _) (by simp [zeroR]) (fun _ => rfl)
      rw [hzz, if_neg (zero_in i k)] at h3
      rw [hcm, if_neg (zero_in i k)]
      exact h3
    · have hcm : comesA G C a = clipF a.rect G.length C := by unfold comesA; rw [if_neg (by omega), if_neg (by omega)]; exact clip_own'
      have hyes : 97 ≤ (acellF a).rune ∧ (acellF a).rune ≤ 122 := by
        unfold acellF
        rw [if_neg hr]
        have := Int.emod_nonneg a.d.rune (show (26 : Int) ≠ 0 by decide)
        have := Int.emod_lt_of_pos a.d.rune (show (0 : Int) < 26 by decide)
        show 97 ≤ 97 + a.d.rune % 26 ∧ 97 + a.d.rune % 26 ≤ 122
        omega
      rw [if_pos hyes]
      obtain ⟨K, d, h1, h2, h3⟩ := erase_grid hC a.rect (acellF a) hL hc
      refine ⟨K, d, h1, h2, ?_⟩
      rw [hm, hz] at h3
      rw [hcm]
      by_cases hin : inR (clipF a.rect G.length C) i k
      · rw [if_pos hin] at h3 ⊢
        exact ⟨acellF a, by unfold wasA; rw [if_pos (by omega)], .inl h3⟩
      · rw [if_neg hin] at h3 ⊢; exact h3
  · by_cases c23 : a.what % 8 = 2 ∨ a.what % 8 = 3
    · have e : doesG a G = eraseG G a.rect (blankF (acellF a).attr (acellF a).label) := by unfold doesG; rw [if_neg c01, if_pos c23]
      rw [e]
      have hcm : comesA G C a = clipF a.rect G.length C := by unfold comesA; rw [if_neg (by omega), if_neg (by omega)]; exact clip_own'
      obtain ⟨K, d, h1, h2, h3⟩ := erase_grid hC a.rect (blankF (acellF a).attr (acellF a).label) hL hc
      refine ⟨K, d, h1, h2, ?_⟩
      rw [hm] at h3
      rw [hcm]
      by_cases hin : inR (clipF a.rect G.length C) i k
      · rw [if_pos hin] at h3 ⊢
        exact ⟨blankF (acellF a).attr (acellF a).label, by unfold wasA; rw [if_neg (by omega), if_pos (by omega)], .inl (h3.trans rfl)⟩
      · rw [if_neg hin] at h3 ⊢; exact h3
    · have c4 : 3 < a.what % 8 := by omega
      have e : doesG a G = copyG G a.rect (smallF a.row) (smallF a.col) := by unfold doesG; rw [if_neg c01, if_neg c23]
      rw [e]
      have hcw := clipped_within hC a.rect
      have hcm : comesF G (clippedF G a.rect) (smallF a.row) (smallF a.col) = comesA G C a := by
        unfold comesF comesA
        by_cases hneg : smallF a.row < 0 ∨ smallF a.col < 0
        · rw [if_pos hneg, if_pos (.inl ⟨c4, hneg⟩)]
        · rw [if_neg hneg, if_neg (by omega), if_pos c4, hm, hm]
      obtain ⟨cw, cr, cc, _⟩ := comes_ok hC (clippedF G a.rect) ⟨hcw.r, hcw.c⟩ (smallF a.row) (smallF a.col)
      unfold copyG
      rw [changedF_get, hL, Option.map_some]
      rw [hcm] at cw cr cc ⊢
      rw [hm] at cr cc hcw ⊢
      have hLl := hC L (List.mem_of_getElem? hL)
      have w1 := cw.t; have w2 := cw.l; have w3 := cw.r; have w4 := cw.c; have w5 := cw.b; have w6 := cw.e
      have v1 := hcw.t; have v2 := hcw.l; have v3 := hcw.r; have v4 := hcw.c; have v5 := hcw.b; have v6 := hcw.e
      split
      · rename_i hr
        rw [getD_some hL]
        obtain ⟨S, hS⟩ : ∃ S, G[((clipF a.rect G.length C).t + i - (comesA G C a).t).toNat]? = some S := ⟨_, List.getElem?_eq_getElem (by omega)⟩
        rw [getD_some hS]
        have hSl := hC S (List.mem_of_getElem? hS)
        obtain ⟨d, h1, h2⟩ := copy_cell (S := S) (f := clipF a.rect G.length C) (m := comesA G C a) hSl hLl v2 w2 w4 cc v6 w6 hc
        refine ⟨_, d, rfl, h1, ?_⟩
        by_cases hk : (comesA G C a).l ≤ k ∧ (k : Int) < (comesA G C a).l + (comesA G C a).c
        · rw [if_pos hk] at h2
          rw [if_pos (show inR _ _ _ from ⟨hr, hk⟩)]
          obtain ⟨s, hs, hok⟩ := h2
          exact ⟨s, by unfold wasA; rw [if_neg (by omega), if_neg (by omega)]; exact ⟨S, hS, hs⟩, hok⟩
        · rw [if_neg hk] at h2
          rw [if_neg (show ¬ inR _ _ _ from fun h => hk h.2)]; exact h2
      · rename_i hr
        exact ⟨L, c, rfl, hc, by rw [if_neg (show ¬ inR _ _ _ from fun h => hr h.1)]; exact .inl rfl⟩
theorem cut_take' {L : List Ce} {n j : Nat} (h : cutF (L.take n) j = true) : cutF L j = true := by
  obtain ⟨a, b, h0, h1, h2, h3, h4⟩ := cutF_iff.1 h
  refine cutF_iff.2 ⟨a, b, h0, ?_, ?_, h3, h4⟩
  · rw [List.getElem?_take] at h1; split at h1
    · exact h1
    · cases h1
  · rw [List.getElem?_take] at h2; split at h2
    · exact h2
    · cases h2
theorem copyRow_wh {S L : List Ce} {f m : Rc} {C : Nat} (h1 : 0 ≤ f.l) (h2 : 0 ≤ m.l) (h3 : 0 ≤ m.c) (h4 : m.c ≤ f.c) (h5 : f.l + f.c ≤ C) (h6 : m.l + m.c ≤ C) (hS : S.length = C) (hL : L.length = C) (w : Wh S) (u : Wh L) : Wh (copyRow S L f m) := by
  have wB := u.brk2 m.l (m.l + m.c)
  have hB : ∀ j, cutF (Run.brk2 L m.l (m.l + m.c)) j = true → j ≠ m.l.toNat ∧ j ≠ m.l.toNat + m.c.toNat := fun j hj => by
    have := brk2_cut _ _ _ hj
    rw [clampN_at h2 (by omega), clampN_at (by omega) (by omega)] at this
    exact ⟨this.1, fun e => this.2 (by omega)⟩
  have wT := (w.brk2 f.l (f.l + m.c)).brk (f.l + f.c)
  have hT : ∀ j, cutF (breakF (Run.brk2 S f.l (f.l + m.c)) (f.l + f.c)) j = true → j ≠ f.l.toNat ∧ j ≠ (f.l + m.c).toNat := fun j hj => by
    have := brk2_cut _ _ _ (breakF_cut _ _ hj).1
    rw [clampN_at h1 (by omega), clampN_at (by omega) (by omega)] at this
    exact this
  unfold copyRow
  exact ((wB.take fun hc => (hB _ hc).1 rfl).append ((wT.take fun hc => (hT _ hc).2 rfl).drop fun hc => (hT _ (cut_take' hc)).1 rfl)).append (wB.drop fun hc => (hB _ hc).2 rfl)
theorem changed_wh {G : Gd} (w : WhG G) {t n : Int} {F : Nat → List Ce} (hF : ∀ i, i < G.length → t ≤ i → (i : Int) < t + n → Wh (F i)) : WhG (changedF G t n F) := fun K hK => by
  obtain ⟨i, hi⟩ := List.mem_iff_getElem?.1 hK
  rw [changedF_get] at hi
  obtain ⟨L, hL, rfl⟩ := Option.map_eq_some_iff.1 hi
  split
  · rename_i h
    exact hF i (List.getElem?_eq_some_iff.1 hL).1 h.1 h.2
  · exact w L (List.mem_of_getElem? hL)
theorem getD_mem' {G : Gd} {i : Nat} (h : i < G.length) : G.getD i [] ∈ G := by
  rw [List.getD_eq_getElem?_getD, List.getElem?_eq_getElem h]
  exact List.getElem_mem h
theorem erase_whG {G : Gd} (w : WhG G) (r : Rc) (z : Ce) : WhG (eraseG G r z) := changed_wh w fun i hi _ _ => (w _ (getD_mem' hi)).erase _ _ rfl
theorem does_wh {G : Gd} {C : Nat} (hC : Flush G C) (w : WhG G) (a : An) : WhG (doesG a G) := by
  unfold doesG
  split
  · exact erase_whG w _ _
  · split
    · exact erase_whG w _ _
    · have hcw := clipped_within hC a.rect
      obtain ⟨cw, cr, cc, _⟩ := comes_ok hC (clippedF G a.rect) ⟨hcw.r, hcw.c⟩ (smallF a.row) (smallF a.col)
      have w1 := cw.t; have w2 := cw.l; have w3 := cw.r; have w4 := cw.c; have w5 := cw.b; have w6 := cw.e
      have v1 := hcw.t; have v2 := hcw.l; have v3 := hcw.r; have v4 := hcw.c; have v5 := hcw.b; have v6 := hcw.e
      unfold copyG
      refine changed_wh w fun i hi h1 h2 => ?_
      have hs : ((clippedF G a.rect).t + i - (comesF G (clippedF G a.rect) (smallF a.row) (smallF a.col)).t).toNat < G.length := by omega
      exact copyRow_wh v2 w2 w4 cc v6 w6 (getD_len hC hs) (getD_len hC hi) (w _ (getD_mem' hs)) (w _ (getD_mem' hi))
theorem gridF_wh (c : Int) (T : Lns) : WhG (gridF c T) := fun L hL => by
  obtain ⟨p, _, rfl⟩ := List.mem_map.1 hL
  exact (row_ok _ _ _).1
end Go.Proofs.Ytklnbkacnghdnaa.Run
