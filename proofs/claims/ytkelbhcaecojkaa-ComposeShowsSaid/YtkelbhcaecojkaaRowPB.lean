/- Rows of cells that look alike to Low, in plain words: they do so again behind the same acts; rows that are drawn are whole, and look alike. No program is spoken of. -/
import Derived.Test.YtkelbhcaecojkaaRowH
namespace Go.Proofs.Ytkelbhcaecojkaa.Run
open Go Go.RowKit
set_option linter.unusedVariables false
set_option linter.unusedSimpArgs false
structure Two (R : Ce → Ce → Prop) (L K : List Ce) : Prop where
  len : L.length = K.length
  at' : ∀ (i : Nat) (c d : Ce), L[i]? = some c → K[i]? = some d → R c d
section
variable {R : Ce → Ce → Prop} {A B C D L K : List Ce}
theorem Two.refl (h : ∀ c ∈ L, R c c) : Two R L L := ⟨rfl, fun i c d hc hd => by rw [hc] at hd; cases hd; exact h c (List.mem_of_getElem? hc)⟩
theorem Two.append (h : Two R A C) (k : Two R B D) : Two R (A ++ B) (C ++ D) := by
  have hl := h.len
  refine ⟨by simp [h.len, k.len], fun i c d hc hd => ?_⟩
  by_cases hi : i < A.length
  · rw [List.getElem?_append_left hi] at hc
    rw [List.getElem?_append_left (by omega)] at hd
    exact h.at' i c d hc hd
  · rw [List.getElem?_append_right (by omega)] at hc
    rw [List.getElem?_append_right (by omega), ← hl] at hd
    exact k.at' _ c d hc hd
theorem Two.take (h : Two R L K) (n : Nat) : Two R (L.take n) (K.take n) := by
  refine ⟨by simp [h.len], fun i c d hc hd => ?_⟩
  rw [List.getElem?_take] at hc hd
  split at hc
  · rename_i hi
    rw [if_pos hi] at hd
    exact h.at' i c d hc hd
  · cases hc
theorem Two.drop (h : Two R L K) (n : Nat) : Two R (L.drop n) (K.drop n) := by
  refine ⟨by simp [h.len], fun i c d hc hd => ?_⟩
  rw [List.getElem?_drop] at hc hd
  exact h.at' _ c d hc hd
theorem Two.set (h : Two R L K) (i : Nat) {c d : Ce} (hr : R c d) : Two R (L.set i c) (K.set i d) := by
  have hl := h.len
  refine ⟨by simp [h.len], fun j a b ha hb => ?_⟩
  rw [List.getElem?_set] at ha hb
  by_cases hij : i = j
  · rw [if_pos hij] at ha hb
    split at ha
    · rw [if_pos (by omega)] at hb
      cases ha; cases hb; exact hr
    · cases ha
  · rw [if_neg hij] at ha hb
    exact h.at' j a b ha hb
theorem Two.map {f g : Ce → Ce} (h : Two R L K) (hf : ∀ c d, c ∈ L → d ∈ K → R c d → R (f c) (g d)) : Two R (L.map f) (K.map g) := by
  refine ⟨by simp [h.len], fun i c d hc hd => ?_⟩
  rw [List.getElem?_map] at hc hd
  obtain ⟨a, ha, rfl⟩ := Option.map_eq_some_iff.1 hc
  obtain ⟨b, hb, rfl⟩ := Option.map_eq_some_iff.1 hd
  exact hf a b (List.mem_of_getElem? ha) (List.mem_of_getElem? hb) (h.at' i a b ha hb)
theorem Two.symm (hs : ∀ c d, R c d → R d c) (h : Two R L K) : Two R K L := ⟨h.len.symm, fun i c d hc hd => hs d c (h.at' i d c hd hc)⟩
theorem Two.trans (ht : ∀ a b c, R a b → R b c → R a c) (h : Two R A B) (k : Two R B C) : Two R A C := by
  refine ⟨h.len.trans k.len, fun i c d hc hd => ?_⟩
  have hi := (List.getElem?_eq_some_iff.1 hc).1
  have hb : B[i]? = some (B[i]'(by have := h.len; omega)) := List.getElem?_eq_getElem _
  exact ht _ _ _ (h.at' i c _ hc hb) (k.at' i _ d hb hd)
theorem Two.get (h : Two R L K) {i : Nat} {c : Ce} (hc : L[i]? = some c) : ∃ d, K[i]? = some d ∧ R c d := by
  have hi := (List.getElem?_eq_some_iff.1 hc).1
  have hd : K[i]? = some (K[i]'(by have := h.len; omega)) := List.getElem?_eq_getElem _
  exact ⟨_, hd, h.at' i c _ hc hd⟩
end
theorem bareAt_get (L : List Ce) (j k : Nat) : (bareAt L j)[k]? = (L[k]?).map fun c => if k = j then c.bare else c := by
  unfold bareAt
  split
  · rename_i c hc
    rw [List.getElem?_set]
    by_cases h : j = k
    · subst h
      rw [if_pos rfl, if_pos (List.getElem?_eq_some_iff.1 hc).1, hc]
      simp
    · rw [if_neg h]
      have : ∀ c : Ce, (if k = j then c.bare else c) = c := fun c => if_neg fun e => h e.symm
      simp only [this, Option.map_id']
  · rename_i hc
    by_cases h : k = j
    · subst h; rw [hc]; rfl
    · simp only [if_neg h, Option.map_id']
theorem breakF_get (L : List Ce) (x : Int) (k : Nat) : (breakF L x)[k]? = (L[k]?).map fun c => if cutF L (clampN x L.length) = true ∧ (k + 1 = clampN x L.length ∨ k = clampN x L.length) then c.bare else c := by
  rw [breakF_clamp]
  split
  · rename_i hc
    obtain ⟨a, b, h0, _⟩ := cutF_iff.1 hc
    rw [bareAt_get, bareAt_get, Option.map_map]
    congr 1
    funext c
    simp only [Function.comp]
    by_cases h1 : k = clampN x L.length
    · rw [if_pos h1, if_neg (by omega), if_pos ⟨hc, .inr h1⟩]
    · by_cases h2 : k + 1 = clampN x L.length
      · rw [if_neg h1, if_pos (by omega), if_pos ⟨hc, .inl h2⟩]
      · rw [if_neg h1, if_neg (by omega), if_neg (by omega)]
  · rename_i hc
    have : ∀ c : Ce, (if cutF L (clampN x L.length) = true ∧ (k + 1 = clampN x L.length ∨ k = clampN x L.length) then c.bare else c) = c := fun c => if_neg fun h => hc h.1
    simp only [this, Option.map_id']
theorem clampN_nat {n m : Nat} (h : n ≤ m) : clampN (n : Int) m = n := by unfold clampN; omega
structure Wh (L : List Ce) : Prop where
  kinds : ∀ (i : Nat) (c : Ce), L[i]? = some c → c.kind = 0 ∨ c.kind = 1 ∨ c.kind = 2
  left : ∀ (i : Nat) (c : Ce), L[i]? = some c → c.kind = 1 → L[i + 1]? = some c.half
  right : ∀ (i : Nat) (c : Ce), L[i]? = some c → c.kind = 2 → ∃ (j : Nat) (d : Ce), i = j + 1 ∧ L[j]? = some d ∧ d.kind = 1 ∧ c = d.half
theorem half_kind (c : Ce) : c.half.kind = 2 := rfl
theorem wholeF_wh : ∀ (n : Nat) (L : List Ce), L.length ≤ n → (wholeF L = true ↔ Wh L)
  | _, [], _ => by
    refine ⟨fun _ => ⟨by simp, by simp, by simp⟩, fun _ => by unfold wholeF; rfl⟩
  | 0, c :: r, h => by simp at h
  | n + 1, c :: r, h => by
    simp only [List.length_cons] at h
    rw [wholeF_cons]
    by_cases h0 : c.kind = 0
    · rw [if_pos h0, wholeF_wh n r (by omega)]
      constructor
      · intro w
        refine ⟨fun i d hd => ?_, fun i d hd hk => ?_, fun i d hd hk => ?_⟩
        · cases i with
          | zero => cases hd; exact .inl h0
          | succ i => exact w.kinds i d (by simpa using hd)
        · cases i with
          | zero => cases hd; omega
          | succ i => simpa using w.left i d (by simpa using hd) hk
        · cases i with
          | zero => cases hd; omega
          | succ i =>
            obtain ⟨j, e, hj, he, hk1, hk2⟩ := w.right i d (by simpa using hd) hk
            exact ⟨j + 1, e, by omega, by simpa using he, hk1, hk2⟩
      · intro w
        refine ⟨fun i d hd => w.kinds (i + 1) d (by simpa using hd), fun i d hd hk => by simpa using w.left (i + 1) d (by simpa using hd) hk, fun i d hd hk => ?_⟩
        obtain ⟨j, e, hj, he, hk1, hk2⟩ := w.right (i + 1) d (by simpa using hd) hk
        cases j with
        | zero => cases he; omega
        | succ j => exact ⟨j, e, by omega, by simpa using he, hk1, hk2⟩
    · rw [if_neg h0]
      by_cases h1 : c.kind = 1
      · rw [if_pos h1]
        cases r with
        | nil =>
          refine ⟨fun h => by simp at h, fun w => ?_⟩
          have := w.left 0 c rfl h1
          simp at this
        | cons d r =>
          simp only [List.length_cons] at h
          simp only [Bool.and_eq_true, decide_eq_true_eq]
          rw [wholeF_wh n r (by omega)]
          constructor
          · rintro ⟨rfl, w⟩
            refine ⟨fun i d hd => ?_, fun i d hd hk => ?_, fun i d hd hk => ?_⟩
            · match i, hd with
              | 0, hd => cases hd; exact .inr (.inl h1)
              | 1, hd => cases hd; exact .inr (.inr rfl)
              | i + 2, hd => exact w.kinds i d (by simpa using hd)
            · match i, hd with
              | 0, hd => cases hd; rfl
              | 1, hd => cases hd; rw [half_kind] at hk; omega
              | i + 2, hd => simpa using w.left i d (by simpa using hd) hk
            · match i, hd with
              | 0, hd => cases hd; omega
              | 1, hd => cases hd; exact ⟨0, c, rfl, rfl, h1, rfl⟩
              | i + 2, hd =>
                obtain ⟨j, e, hj, he, hk1, hk2⟩ := w.right i d (by simpa using hd) hk
                exact ⟨j + 2, e, by omega, by simpa using he, hk1, hk2⟩
          · intro w
            have hd0 : d = c.half := by
              have := w.left 0 c rfl h1
              simpa using this
            refine ⟨hd0, fun i d hd => w.kinds (i + 2) d (by simpa using hd), fun i d hd hk => by simpa using w.left (i + 2) d (by simpa using hd) hk, fun i e he hk => ?_⟩
            obtain ⟨j, f, hj, hf, hk1, hk2⟩ := w.right (i + 2) e (by simpa using he) hk
            match j, hf with
            | 0, hf => omega
            | 1, hf => cases hf; rw [hd0, half_kind] at hk1; omega
            | j + 2, hf => exact ⟨j, f, by omega, by simpa using hf, hk1, hk2⟩
      · rw [if_neg h1]
        refine ⟨fun h => by simp at h, fun w => ?_⟩
        rcases w.kinds 0 c rfl with h | h | h
        · omega
        · omega
        · obtain ⟨j, e, hj, _⟩ := w.right 0 c rfl h
          omega
theorem whole_iff {L : List Ce} : wholeF L = true ↔ Wh L := wholeF_wh L.length L (Nat.le_refl _)
section
variable {L A B : List Ce}
theorem Wh.cut_half (w : Wh L) {j : Nat} (h : cutF L j = true) : ∃ c, 0 < j ∧ L[j - 1]? = some c ∧ c.kind = 1 ∧ L[j]? = some c.half := by
  obtain ⟨a, b, h0, ha, hb, h1, h2⟩ := cutF_iff.1 h
  have := w.left _ a ha h1
  rw [show j - 1 + 1 = j by omega] at this
  exact ⟨a, h0, ha, h1, this⟩
theorem Wh.brk (w : Wh L) (x : Int) : Wh (breakF L x) := by
  have hg := breakF_get L x
  by_cases hc : cutF L (clampN x L.length) = true
  · obtain ⟨a, h0, ha, hk, hb⟩ := w.cut_half hc
    generalize clampN x L.length = j at *
    have hg : ∀ k, (breakF L x)[k]? = (L[k]?).map fun c => if k + 1 = j ∨ k = j then c.bare else c := fun k => by rw [hg]; simp only [hc, true_and]
    have bk : ∀ c : Ce, c.bare.kind = 0 := fun _ => rfl
    refine ⟨fun i c h => ?_, fun i c h hk1 => ?_, fun i c h hk1 => ?_⟩
    · rw [hg] at h
      obtain ⟨d, hd, rfl⟩ := Option.map_eq_some_iff.1 h
      split
      · exact .inl rfl
      · exact w.kinds i d hd
    · rw [hg] at h
      obtain ⟨d, hd, rfl⟩ := Option.map_eq_some_iff.1 h
      split at hk1
      · rw [bk] at hk1; omega
      · rename_i hij
        rw [if_neg hij, hg, w.left i d hd hk1, Option.map_some]
        rw [if_neg]
        rintro (h2 | h2)
        · have : L[j - 1]? = some d.half := by rw [← w.left i d hd hk1]; congr 1; omega
          rw [ha] at this; cases this; rw [half_kind] at hk; omega
        · omega
    · rw [hg] at h
      obtain ⟨d, hd, rfl⟩ := Option.map_eq_some_iff.1 h
      split at hk1
      · rw [bk] at hk1; omega
      · rename_i hij
        rw [if_neg hij]
        obtain ⟨m, e, rfl, he, hk2, hk3⟩ := w.right i d hd hk1
        refine ⟨m, e, rfl, ?_, hk2, hk3⟩
        rw [hg, he, Option.map_some, if_neg]
        rintro (h2 | h2)
        · exact hij (.inr h2)
        · subst h2; rw [he] at hb; cases hb; rw [half_kind] at hk2; omega
  · have : breakF L x = L := by
      apply List.ext_getElem?
      intro k
      rw [hg]
      have : ∀ c : Ce, (if cutF L (clampN x L.length) = true ∧ (k + 1 = clampN x L.length ∨ k = clampN x L.length) then c.bare else c) = c := fun c => if_neg fun h => hc h.1
      simp only [this, Option.map_id']
    rw [this]; exact w
theorem breakF_cut (L : List Ce) (x : Int) {j : Nat} (h : cutF (breakF L x) j = true) : cutF L j = true ∧ j ≠ clampN x L.length := by
  obtain ⟨a, b, h0, ha, hb, h1, h2⟩ := cutF_iff.1 h
  rw [breakF_get] at ha hb
  obtain ⟨c, hc, rfl⟩ := Option.map_eq_some_iff.1 ha
  obtain ⟨d, hd, rfl⟩ := Option.map_eq_some_iff.1 hb
  have bk : ∀ c : Ce, c.bare.kind = 0 := fun _ => rfl
  split at h1
  · rw [bk] at h1; omega
  split at h2
  · rw [bk] at h2; omega
  rename_i n1 n2
  have hcut : cutF L j = true := cutF_iff.2 ⟨c, d, h0, hc, hd, h1, h2⟩
  refine ⟨hcut, fun he => ?_⟩
  subst he
  exact n2 ⟨hcut, .inr rfl⟩
theorem Wh.take (w : Wh L) {n : Nat} (h : ¬ cutF L n = true) : Wh (L.take n) := by
  refine ⟨fun i c hc => ?_, fun i c hc hk => ?_, fun i c hc hk => ?_⟩
  all_goals
    rw [List.getElem?_take] at hc
    split at hc
    rotate_left
    · cases hc
    rename_i hi
  · exact w.kinds i c hc
  · have := w.left i c hc hk
    rw [List.getElem?_take, if_pos, this]
    rcases Nat.lt_or_ge (i + 1) n with h1 | h1
    · exact h1
    · exact absurd (cutF_iff.2 ⟨c, c.half, by omega, by rw [show n - 1 = i by omega]; exact hc, by rw [show n = i + 1 by omega]; exact this, hk, rfl⟩) h
  · obtain ⟨j, d, rfl, hd, h1, h2⟩ := w.right i c hc hk
    exact ⟨j, d, rfl, by rw [List.getElem?_take, if_pos (by omega)]; exact hd, h1, h2⟩
theorem Wh.drop (w : Wh L) {n : Nat} (h : ¬ cutF L n = true) : Wh (L.drop n) := by
  refine ⟨fun i c hc => ?_, fun i c hc hk => ?_, fun i c hc hk => ?_⟩
  all_goals rw [List.getElem?_drop] at hc
  · exact w.kinds _ c hc
  · rw [List.getElem?_drop]; exact w.left _ c hc hk
  · obtain ⟨j, d, hj, hd, h1, h2⟩ := w.right _ c hc hk
    rcases Nat.eq_zero_or_pos i with h0 | h0
    · subst h0
      exact absurd (cutF_iff.2 ⟨d, c, by omega, by rw [show n - 1 = j by omega]; exact hd, by simpa using hc, h1, hk⟩) h
    · exact ⟨i - 1, d, by omega, by rw [List.getElem?_drop, show n + (i - 1) = j by omega]; exact hd, h1, h2⟩
theorem Wh.append (w : Wh A) (u : Wh B) : Wh (A ++ B) := by
  refine ⟨fun i c hc => ?_, fun i c hc hk => ?_, fun i c hc hk => ?_⟩
  all_goals
    by_cases hi : i < A.length
    · rw [List.getElem?_append_left hi] at hc
      first
        | exact w.kinds i c hc
        | (have := w.left i c hc hk
           rw [List.getElem?_append_left (List.getElem?_eq_some_iff.1 this).1]; exact this)
        | (obtain ⟨j, d, rfl, hd, h1, h2⟩ := w.right i c hc hk
           exact ⟨j, d, rfl, by rw [List.getElem?_append_left (by omega)]; exact hd, h1, h2⟩)
    · rw [List.getElem?_append_right (by omega)] at hc
      first
        | exact u.kinds _ c hc
        | (have := u.left _ c hc hk
           rw [List.getElem?_append_right (by omega), show i + 1 - A.length = i - A.length + 1 by omega]; exact this)
        | (obtain ⟨j, d, hj, hd, h1, h2⟩ := u.right _ c hc hk
           exact ⟨A.length + j, d, by omega, by rw [List.getElem?_append_right (by omega), Nat.add_sub_cancel_left]; exact hd, h1, h2⟩)
theorem Wh.narrow (h : ∀ c ∈ L, c.kind = 0) : Wh L :=
  ⟨fun i c hc => .inl (h c (List.mem_of_getElem? hc)), fun i c hc hk => by have := h c (List.mem_of_getElem? hc); omega, fun i c hc hk => by have := h c (List.mem_of_getElem? hc); omega⟩
theorem Wh.rep (n : Nat) {c : Ce} (h : c.kind = 0) : Wh (List.replicate n c) := .narrow fun d hd => by rw [(List.mem_replicate.1 hd).2]; exact h
theorem Wh.put (c : Ce) (wide : Bool) : Wh (putC c wide) := by
  unfold putC
  cases wide with
  | false => exact .narrow fun d hd => by simp at hd; subst hd; rfl
  | true =>
    refine ⟨fun i d hd => ?_, fun i d hd hk => ?_, fun i d hd hk => ?_⟩
    all_goals
      match i, hd with
      | 0, hd => cases hd; first | exact .inr (.inl rfl) | rfl | cases hk
      | 1, hd => cases hd; first | exact .inr (.inr rfl) | exact ⟨0, _, rfl, rfl, rfl, rfl⟩ | cases hk
      | i + 2, hd => simp at hd
theorem brk2_cut (L : List Ce) (x y : Int) {j : Nat} (h : cutF (brk2 L x y) j = true) : j ≠ clampN x L.length ∧ j ≠ clampN y L.length := by
  obtain ⟨h1, h2⟩ := breakF_cut _ _ h
  rw [breakF_len] at h2
  exact ⟨(breakF_cut _ _ h1).2, h2⟩
theorem Wh.brk2 (w : Wh L) (x y : Int) : Wh (brk2 L x y) := (w.brk x).brk y
theorem Wh.insert (w : Wh L) (x n : Int) {c : Ce} (hc : c.kind = 0) : Wh (insertF L x n c) := by
  unfold insertF
  have h1 := clampN_le x L.length
  have h2 := clampN_le n (L.length - clampN x L.length)
  generalize clampN x L.length = p at *
  generalize clampN n (L.length - p) = k at *
  have hcut : ∀ j, cutF (Run.brk2 L (p : Nat) (L.length - k : Nat)) j = true → j ≠ p ∧ j ≠ L.length - k := fun j hj => by
    have := brk2_cut _ _ _ hj
    rwa [clampN_nat (by omega), clampN_nat (by omega)] at this
  have wB := w.brk2 (p : Nat) (L.length - k : Nat)
  generalize Run.brk2 L (p : Nat) (L.length - k : Nat) = B at *
  refine ((wB.take fun h => (hcut _ h).1 rfl).append (.rep _ hc)).append ?_
  refine (wB.take fun h => (hcut _ h).2 rfl).drop fun h => ?_
  obtain ⟨a, b, h0, ha, hb, k1, k2⟩ := cutF_iff.1 h
  rw [List.getElem?_take] at ha hb
  split at hb
  · rw [if_pos (by omega)] at ha
    exact (hcut _ (cutF_iff.2 ⟨a, b, h0, ha, hb, k1, k2⟩)).1 rfl
  · cases hb
theorem Wh.delete (w : Wh L) (x n : Int) {c : Ce} (hc : c.kind = 0) : Wh (deleteF L x n c) := by
  unfold deleteF
  have h1 := clampN_le x L.length
  have h2 := clampN_le n (L.length - clampN x L.length)
  generalize clampN x L.length = p at *
  generalize clampN n (L.length - p) = k at *
  have hcut : ∀ j, cutF (Run.brk2 L (p : Nat) (p + k : Nat)) j = true → j ≠ p ∧ j ≠ p + k := fun j hj => by
    have := brk2_cut _ _ _ hj
    rwa [clampN_nat (by omega), clampN_nat (by omega)] at this
  have wB := w.brk2 (p : Nat) (p + k : Nat)
  generalize Run.brk2 L (p : Nat) (p + k : Nat) = B at *
  exact ((wB.take fun h => (hcut _ h).1 rfl).append (wB.drop fun h => (hcut _ h).2 rfl)).append (.rep _ hc)
theorem Wh.resize (w : Wh L) (n : Nat) {c : Ce} (hc : c.kind = 0) : Wh (resizeF L n c) := by
  unfold resizeF
  have wB := w.brk n
  have hcut : ∀ j, cutF (breakF L n) j = true → j ≠ clampN n L.length := fun j hj => (breakF_cut _ _ hj).2
  have hlen := breakF_len L n
  generalize breakF L n = B at *
  refine Wh.append ?_ (.rep _ hc)
  refine wB.take fun h => hcut _ h ?_
  obtain ⟨a, b, h0, ha, hb, _⟩ := cutF_iff.1 h
  have := (List.getElem?_eq_some_iff.1 hb).1
  rw [clampN_nat (by omega)]
theorem Wh.putF (w : Wh L) (x : Int) (c : Ce) (wide : Bool) : Wh (putF L x c wide) := by
  unfold Run.putF
  split
  · exact w
  rename_i h
  have hcut : ∀ j, cutF (Run.brk2 L x (x + (putC c wide).length)) j = true → j ≠ x.toNat ∧ j ≠ (x + (putC c wide).length).toNat := fun j hj => by
    have := brk2_cut _ _ _ hj
    have e1 : clampN x L.length = x.toNat := by unfold clampN; omega
    have e2 : clampN (x + (putC c wide).length) L.length = (x + (putC c wide).length).toNat := by unfold clampN; omega
    rwa [e1, e2] at this
  have wB := w.brk2 x (x + (putC c wide).length)
  generalize Run.brk2 L x (x + (putC c wide).length) = B at *
  exact ((wB.take fun h => (hcut _ h).1 rfl).append (.put c wide)).append (wB.drop fun h => (hcut _ h).2 rfl)
theorem Wh.raise (w : Wh L) (l : Int) : Wh (L.map (Ce.raise l)) := by
  have hh : ∀ c : Ce, (c.raise l).half = c.half.raise l := fun _ => rfl
  refine ⟨fun i c hc => ?_, fun i c hc hk => ?_, fun i c hc hk => ?_⟩
  all_goals
    rw [List.getElem?_map] at hc
    obtain ⟨d, hd, rfl⟩ := Option.map_eq_some_iff.1 hc
  · exact w.kinds i d hd
  · rw [List.getElem?_map, w.left i d hd hk]; rfl
  · obtain ⟨j, e, rfl, he, h1, h2⟩ := w.right i d hd hk
    exact ⟨j, e.raise l, rfl, by rw [List.getElem?_map, he]; rfl, h1, by rw [h2]; rfl⟩
end
section
variable (L : List Ce)
theorem resizeF_len (n : Nat) (c : Ce) : (resizeF L n c).length = n := by
  unfold resizeF
  simp only [List.length_append, List.length_take, List.length_replicate, breakF_len]
  omega
end
end Go.Proofs.Ytkelbhcaecojkaa.Run
namespace Go.Proofs.Ytkelbhcaecojkaa.Run
open Go Go.RowKit
set_option linter.unusedVariables false
set_option linter.unusedSimpArgs false
def lowC (c d : Ce) : Prop := c.label = d.label ∧ (c.label = 0 → c = d)
theorem lowC.rfl' (c : Ce) : lowC c c := ⟨rfl, fun _ => rfl⟩
theorem lowC.symm {c d : Ce} (h : lowC c d) : lowC d c := ⟨h.1.symm, fun e => (h.2 (h.1.trans e)).symm⟩
theorem lowC.trans {a b c : Ce} (h : lowC a b) (k : lowC b c) : lowC a c := ⟨h.1.trans k.1, fun e => (h.2 e).trans (k.2 (h.1 ▸ e))⟩
def Lb (L : List Ce) : Prop := ∀ c ∈ L, c.label = 0 ∨ c.label = 1
abbrev Low (L K : List Ce) : Prop := Two lowC L K
theorem Low.refl (L : List Ce) : Low L L := Two.refl fun c _ => lowC.rfl' c
section
variable {L K : List Ce}
theorem Lb.append {A B : List Ce} (h : Lb A) (k : Lb B) : Lb (A ++ B) := fun c hc => by
  rcases List.mem_append.1 hc with h' | h'
  · exact h c h'
  · exact k c h'
theorem Lb.take (h : Lb L) (n : Nat) : Lb (L.take n) := fun c hc => h c (List.mem_of_mem_take hc)
theorem Lb.drop (h : Lb L) (n : Nat) : Lb (L.drop n) := fun c hc => h c (List.mem_of_mem_drop hc)
theorem Lb.rep (n : Nat) {c : Ce} (h : c.label = 0 ∨ c.label = 1) : Lb (List.replicate n c) := fun d hd => by rw [(List.mem_replicate.1 hd).2]; exact h
theorem Lb.brk (h : Lb L) (x : Int) : Lb (breakF L x) := fun c hc => by
  obtain ⟨k, hk⟩ := List.mem_iff_getElem?.1 hc
  rw [breakF_get] at hk
  obtain ⟨d, hd, rfl⟩ := Option.map_eq_some_iff.1 hk
  have := h d (List.mem_of_getElem? hd)
  split
  · exact this
  · exact this
theorem Lb.brk2 (h : Lb L) (x y : Int) : Lb (brk2 L x y) := (h.brk x).brk y
theorem Lb.put (c : Ce) (wide : Bool) (h : c.label = 0 ∨ c.label = 1) : Lb (putC c wide) := by
  unfold putC
  intro d hd
  split at hd
  · rcases List.mem_cons.1 hd with rfl | hd
    · exact h
    · rw [List.mem_singleton.1 hd]; exact h
  · rw [List.mem_singleton.1 hd]; exact h
theorem Lb.set (h : Lb L) (i : Nat) {c : Ce} (hc : c.label = 0 ∨ c.label = 1) : Lb (L.set i c) := fun d hd => by
  rcases List.mem_or_eq_of_mem_set hd with h' | h'
  · exact h d h'
  · rw [h']; exact hc
def offC (l : Int) (c d : Ce) : Prop := c.label = d.label ∧ (c.label ≠ l → c = d)
theorem offC.rfl' (l : Int) (c : Ce) : offC l c c := ⟨rfl, fun _ => rfl⟩
theorem offC.trans {l : Int} {a b c : Ce} (h : offC l a b) (k : offC l b c) : offC l a c := ⟨h.1.trans k.1, fun e => (h.2 e).trans (k.2 (h.1 ▸ e))⟩
theorem brk_off (w : Wh L) {l : Int} {x : Int} (hx : ∀ c : Ce, (L[clampN x L.length]? = some c ∨ (∃ j, j + 1 = clampN x L.length ∧ L[j]? = some c)) → cutF L (clampN x L.length) = true → c.label = l) : Two (offC l) L (breakF L x) := by
  refine ⟨(breakF_len _ _).symm, fun k c d hc hd => ?_⟩
  rw [breakF_get, hc] at hd
  cases hd
  split
  · rename_i h
    refine ⟨rfl, fun e => absurd (hx c ?_ h.1) e⟩
    rcases h.2 with h2 | h2
    · exact .inr ⟨k, h2, hc⟩
    · exact .inl (h2 ▸ hc)
  · exact offC.rfl' l c
theorem put_off (w : Wh L) {i : Nat} {c : Ce} {wide : Bool} (hin : i + numC wide ≤ L.length) (hl : ∀ k d, L[k]? = some d → i ≤ k → k < i + numC wide → d.label = c.label) : Two (offC c.label) L (putF L i c wide) := by
  have hn : numC wide = 1 ∨ numC wide = 2 := by unfold numC; split <;> simp
  have hput : putF L i c wide = (brk2 L i (i + numC wide : Nat)).take i ++ putC c wide ++ (brk2 L i (i + numC wide : Nat)).drop (i + numC wide) := by
    unfold putF
    rw [putC_len, if_neg (by omega), Int.toNat_natCast, show ((i : Int) + (numC wide : Nat)) = ((i + numC wide : Nat) : Int) by omega, Int.toNat_natCast]
  have t := fun a b c' => @offC.trans c.label a b c'
  have h1 : Two (offC c.label) L (breakF L i) := brk_off w fun d hd hcut => by
    rw [clampN_nat (by omega)] at hd hcut
    obtain ⟨a, h0, ha, hk, hb⟩ := w.cut_half hcut
    have := hl i a.half hb (Nat.le_refl _) (by omega)
    rcases hd with hd | ⟨j, hj, hd⟩
    · rw [hb] at hd; cases hd; exact this
    · rw [show i - 1 = j by omega, hd] at ha; cases ha; exact this
  have w1 := w.brk i
  have h2 : Two (offC c.label) (breakF L i) (brk2 L i (i + numC wide : Nat)) := brk_off w1 fun d hd hcut => by
    rw [breakF_len, clampN_nat (by omega)] at hd hcut
    obtain ⟨a, h0, ha, hk, hb⟩ := w1.cut_half hcut
    obtain ⟨a', ha', r⟩ := (h1.symm (R := offC c.label) (L := L) (fun _ _ h => ⟨h.1.symm, fun e => (h.2 (fun e' => e (h.1 ▸ e'))).symm⟩)).get ha
    have := hl _ a' ha' (by omega) (by omega)
    rw [← r.1] at this
    rcases hd with hd | ⟨j, hj, hd⟩
    · rw [hb] at hd; cases hd; exact this
    · rw [show i + numC wide - 1 = j by omega, hd] at ha; cases ha; exact this
  have h12 := h1.trans t h2
  rw [hput]
  have hsplit : L = L.take i ++ (L.drop i).take (numC wide) ++ L.drop (i + numC wide) := by
    rw [List.append_assoc, ← List.drop_drop, List.take_append_drop, List.take_append_drop]
  conv => lhs; rw [hsplit]
  refine ((h12.take i).append ⟨?_, fun k x y hx hy => ?_⟩).append (h12.drop _)
  · rw [List.length_take, List.length_drop, putC_len]; omega
  · rw [List.getElem?_take] at hx
    split at hx
    · rename_i hk
      rw [List.getElem?_drop] at hx
      have hxl := hl _ x hx (by omega) (by omega)
      have hyl : y.label = c.label := by
        have := List.mem_of_getElem? hy
        unfold putC at this
        split at this
        · rcases List.mem_cons.1 this with rfl | h'
          · rfl
          · rw [List.mem_singleton.1 h']; rfl
        · rw [List.mem_singleton.1 this]
      exact ⟨hxl.trans hyl.symm, fun e => absurd hxl e⟩
    · cases hx
def Labs (A : List Lv) (r : List Ce) : Prop := r.length = A.length ∧ ∀ (i : Nat) (c : Ce) (a : Lv), r[i]? = some c → A[i]? = some a → c.label = a.n
theorem Labs.off {A : List Lv} {l : Int} {r s : List Ce} (h : Labs A r) (t : Two (offC l) r s) : Labs A s := by
  refine ⟨by rw [← t.len]; exact h.1, fun i c a hc ha => ?_⟩
  obtain ⟨d, hd, r'⟩ := (t.symm (R := offC l) (fun _ _ h => ⟨h.1.symm, fun e => (h.2 (fun e' => e (h.1 ▸ e'))).symm⟩)).get hc
  rw [r'.1]
  exact h.2 i d a hd ha
theorem wide_in {A : List Lv} {d : Dr} {i n : Nat} (hn : n = A.length) (hi : i < n) : i + numC (wideF A d i n) ≤ n ∧ ∀ k a b, A[k]? = some a → A[i]? = some b → i ≤ k → k < i + numC (wideF A d i n) → a.n = b.n := by
  by_cases hw : wideF A d i n = true
  · rw [hw]
    unfold wideF at hw
    simp only [Bool.and_eq_true, decide_eq_true_eq] at hw
    obtain ⟨⟨_, h1⟩, h2⟩ := hw
    refine ⟨h1, fun k a b ha hb h3 h4 => ?_⟩
    have h4 : k < i + 2 := h4
    rcases (show k = i ∨ k = i + 1 by omega) with rfl | rfl
    · rw [ha] at hb; cases hb; rfl
    · rw [ha, hb] at h2
      exact of_decide_eq_true h2
  · rw [show wideF A d i n = false by simpa using hw]
    refine ⟨hi, fun k a b ha hb h3 h4 => ?_⟩
    have h4 : k < i + 1 := h4
    rw [show k = i by omega, hb] at ha; cases ha; rfl
theorem fill_step {A : List Lv} {D O : List Dr} {r : List Ce} (w : Wh r) (hl : Labs A r) (i : Nat) : Wh (fillStep A D O r i) ∧ Labs A (fillStep A D O r i) ∧ ∀ a, A[i]? = some a → Two (offC a.n) r (fillStep A D O r i) := by
  unfold fillStep
  split
  · rename_i a d c ha hp hc
    split
    · exact ⟨w, hl, fun _ _ => Two.refl fun c _ => offC.rfl' _ c⟩
    · have hi := (List.getElem?_eq_some_iff.1 hc).1
      obtain ⟨w1, w2⟩ := wide_in (A := A) (d := d) (i := i) (n := r.length) hl.1 hi
      have t : Two (offC a.n) r (putF r i { cellF d with label := a.n } (wideF A d i r.length)) := put_off (c := { cellF d with label := a.n }) w w1 fun k e he h1 h2 => by
        have hk : A[k]? = some (A[k]'(by have := (List.getElem?_eq_some_iff.1 he).1; have := hl.1; omega)) := List.getElem?_eq_getElem _
        rw [hl.2 k e _ he hk]
        exact w2 k _ a hk ha h1 h2
      exact ⟨w.putF _ _ _, hl.off t, fun a' ha' => by rw [ha] at ha'; cases ha'; exact t⟩
  · exact ⟨w, hl, fun _ _ => Two.refl fun c _ => offC.rfl' _ c⟩
theorem base_ok (A : List Lv) : Wh (baseF A) ∧ Labs A (baseF A) := by
  refine ⟨.narrow fun c hc => ?_, by simp [baseF], fun i c a hc ha => ?_⟩
  · obtain ⟨a, _, rfl⟩ := List.mem_map.1 hc
    rfl
  · rw [baseF, List.getElem?_map, ha] at hc
    cases hc; rfl
theorem fills_ok (A : List Lv) (D O : List Dr) (l : List Nat) : ∀ r : List Ce, Wh r → Labs A r → Wh (l.foldl (fillStep A D O) r) ∧ Labs A (l.foldl (fillStep A D O) r) := by
  induction l with
  | nil => intro r w h; exact ⟨w, h⟩
  | cons i l ih =>
    intro r w h
    rw [List.foldl_cons]
    obtain ⟨h1, h2, _⟩ := fill_step (D := D) (O := O) w h i
    exact ih _ h1 h2
theorem filled_ok (A : List Lv) (D O : List Dr) : Wh (filledF A D O) ∧ Labs A (filledF A D O) := by
  unfold filledF
  obtain ⟨h1, h2⟩ := base_ok A
  split
  · exact ⟨h1, h2⟩
  · exact fills_ok A D O _ _ h1 h2
theorem labelsF_01 (n : Nat) (D : List Dr) : ∀ a ∈ labelsF n D, a.n = 0 ∨ a.n = 1 := by
  intro a ha
  obtain ⟨i, _, rfl⟩ := List.mem_map.1 ha
  show labF D i = 0 ∨ labF D i = 1
  unfold labF
  split
  · split
    · exact .inr rfl
    · exact .inl rfl
  · exact .inl rfl
theorem row_ok (c : Int) (D O : List Dr) : Wh (rowF c D O) ∧ Lb (rowF c D O) := by
  obtain ⟨h1, h2⟩ := filled_ok (labelsF (c % 31).toNat D) D O
  refine ⟨h1, fun e he => ?_⟩
  obtain ⟨k, hk⟩ := List.mem_iff_getElem?.1 he
  have hA : (labelsF (c % 31).toNat D)[k]? = some ((labelsF (c % 31).toNat D)[k]'(by have := (List.getElem?_eq_some_iff.1 hk).1; have := h2.1; unfold rowF at *; omega)) := List.getElem?_eq_getElem _
  rw [h2.2 k e _ hk hA]
  exact labelsF_01 _ _ _ (List.mem_of_getElem? hA)
end
end Go.Proofs.Ytkelbhcaecojkaa.Run
