/- Rows of cells in plain words: what breaking, putting, inserting, deleting, erasing, marking, raising and resizing keep. No program is spoken of. -/
import Derived.Test.YtifemfnjoobiiaaRowH
namespace Go.Proofs.Ytifemfnjoobiiaa.Run
open Go Go.RowKit
set_option linter.unusedVariables false
set_option linter.unusedSimpArgs false
structure Two (R : Ce → Ce → Prop) (L K : List Ce) : Prop where
 len : L.length = K.length
 at' : ∀ (i : Nat) (c d : Ce), L[i]? = some c → K[i]? = some d → R c d
section
variable {R : Ce → Ce → Prop} {A B C D L K : List Ce}
theorem Two.refl (h : ∀ c ∈ L, R c c) : Two R L L := ⟨rfl, fun i c d hc hd => by rw [hc] at hd; cases hd; exact h c (List.mem_of_getElem? hc)⟩
theorem Two.append (h : Two R A C) (k : Two R B D) : Two R (A ++ B) (C ++ D) := by
 have hl := h.len
 refine ⟨by simp [h.len, k.len], fun i c d hc hd => ?_⟩
 by_cases hi : i < A.length
 ·rw [List.getElem?_append_left hi] at hc
  rw [List.getElem?_append_left (by omega)] at hd
  exact h.at' i c d hc hd
 ·rw [List.getElem?_append_right (by omega)] at hc
  rw [List.getElem?_append_right (by omega), ← hl] at hd
  exact k.at' _ c d hc hd
theorem Two.take (h : Two R L K) (n : Nat) : Two R (L.take n) (K.take n) := by
 refine ⟨by simp [h.len], fun i c d hc hd => ?_⟩
 rw [List.getElem?_take] at hc hd
 split at hc
 ·rename_i hi
  rw [if_pos hi] at hd
  exact h.at' i c d hc hd
 ·cases hc
theorem Two.drop (h : Two R L K) (n : Nat) : Two R (L.drop n) (K.drop n) := by
 refine ⟨by simp [h.len], fun i c d hc hd => ?_⟩
 rw [List.getElem?_drop] at hc hd
 exact h.at' _ c d hc hd
theorem Two.set (h : Two R L K) (i : Nat) {c d : Ce} (hr : R c d) : Two R (L.set i c) (K.set i d) := by
 have hl := h.len
 refine ⟨by simp [h.len], fun j a b ha hb => ?_⟩
 rw [List.getElem?_set] at ha hb
 by_cases hij : i = j
 ·rw [if_pos hij] at ha hb
  split at ha
  ·rw [if_pos (by omega)] at hb
   cases ha; cases hb; exact hr
  ·cases ha
 ·rw [if_neg hij] at ha hb
  exact h.at' j a b ha hb
theorem Two.map {f g : Ce → Ce} (h : Two R L K) (hf : ∀ c d, c ∈ L → d ∈ K → R c d → R (f c) (g d)) : Two R (L.map f) (K.map g) := by
 refine ⟨by simp [h.len], fun i c d hc hd => ?_⟩
 rw [List.getElem?_map] at hc hd
 obtain ⟨a, ha, rfl⟩ := Option.map_eq_some_iff.1 hc
 obtain ⟨b, hb, rfl⟩ := Option.map_eq_some_iff.1 hd
 exact hf a b (List.mem_of_getElem? ha) (List.mem_of_getElem? hb) (h.at' i a b ha hb)
theorem Two.symm (hs : ∀ c d, R c d → R d c) (h : Two R L K) : Two R K L := ⟨h.len.symm, fun i c d hc hd => hs d c (h.at' i d c hd hc)⟩
theorem Two.trans (ht : ∀ a b c, R a b → R b c → R a c) (h : Two R A B) (k : Two R B C) : Two R A C := by
 refine ⟨h.len.trans k.len, fun i c d hc hd => ?_⟩
 have hi := (List.getElem?_eq_some_iff.1 hc).1
 have hb : B[i]? = some (B[i]'(by have := h.len; omega)) := List.getElem?_eq_getElem _
 exact ht _ _ _ (h.at' i c _ hc hb) (k.at' i _ d hb hd)
theorem Two.get (h : Two R L K) {i : Nat} {c : Ce} (hc : L[i]? = some c) : ∃ d, K[i]? = some d ∧ R c d := by
 have hi := (List.getElem?_eq_some_iff.1 hc).1
 have hd : K[i]? = some (K[i]'(by have := h.len; omega)) := List.getElem?_eq_getElem _
 exact ⟨_, hd, h.at' i c _ hc hd⟩
end
theorem bareAt_get (L : List Ce) (j k : Nat) : (bareAt L j)[k]? = (L[k]?).map fun c => if k = j then c.bare else c := by
 unfold bareAt
 split
 ·rename_i c hc
  rw [List.getElem?_set]
  by_cases h : j = k
  ·subst h
   rw [if_pos rfl, if_pos (List.getElem?_eq_some_iff.1 hc).1, hc]
   simp
  ·rw [if_neg h]
   have : ∀ c : Ce, (if k = j then c.bare else c) = c := fun c => if_neg fun e => h e.symm
   simp only [this, Option.map_id']
 ·rename_i hc
  by_cases h : k = j
  ·subst h; rw [hc]; rfl
  ·simp only [if_neg h, Option.map_id']
theorem breakF_get (L : List Ce) (x : Int) (k : Nat) : (breakF L x)[k]? = (L[k]?).map fun c => if cutF L (clampN x L.length) = true ∧ (k + 1 = clampN x L.length ∨ k = clampN x L.length) then c.bare else c := by
 rw [breakF_clamp]
 split
 ·rename_i hc
  obtain ⟨a, b, h0, _⟩ := cutF_iff.1 hc
  rw [bareAt_get, bareAt_get, Option.map_map]
  congr 1
  funext c
  simp only [Function.comp]
  by_cases h1 : k = clampN x L.length
  ·rw [if_pos h1, if_neg (by omega), if_pos ⟨hc, .inr h1⟩]
  ·by_cases h2 : k + 1 = clampN x L.length
   ·rw [if_neg h1, if_pos (by omega), if_pos ⟨hc, .inl h2⟩]
   ·rw [if_neg h1, if_neg (by omega), if_neg (by omega)]
 ·rename_i hc
  have : ∀ c : Ce, (if cutF L (clampN x L.length) = true ∧ (k + 1 = clampN x L.length ∨ k = clampN x L.length) then c.bare else c) = c := fun c => if_neg fun h => hc h.1
  simp only [this, Option.map_id']
theorem clampN_nat {n m : Nat} (h : n ≤ m) : clampN (n : Int) m = n := by unfold clampN; omega
structure Wh (L : List Ce) : Prop where
 kinds : ∀ (i : Nat) (c : Ce), L[i]? = some c → c.kind = 0 ∨ c.kind = 1 ∨ c.kind = 2
 left : ∀ (i : Nat) (c : Ce), L[i]? = some c → c.kind = 1 → L[i + 1]? = some c.half
 right : ∀ (i : Nat) (c : Ce), L[i]? = some c → c.kind = 2 → ∃ (j : Nat) (d : Ce), i = j + 1 ∧ L[j]? = some d ∧ d.kind = 1 ∧ c = d.half
theorem half_kind (c : Ce) : c.half.kind = 2 := rfl
section
variable {L A B : List Ce}
theorem Wh.cut_half (w : Wh L) {j : Nat} (h : cutF L j = true) : ∃ c, 0 < j ∧ L[j - 1]? = some c ∧ c.kind = 1 ∧ L[j]? = some c.half := by
 obtain ⟨a, b, h0, ha, hb, h1, h2⟩ := cutF_iff.1 h
 have := w.left _ a ha h1
 rw [show j - 1 + 1 = j by omega] at this
 exact ⟨a, h0, ha, h1, this⟩
theorem Wh.brk (w : Wh L) (x : Int) : Wh (breakF L x) := by
 have hg := breakF_get L x
 by_cases hc : cutF L (clampN x L.length) = true
 ·obtain ⟨a, h0, ha, hk, hb⟩ := w.cut_half hc
  generalize clampN x L.length = j at *
  have hg : ∀ k, (breakF L x)[k]? = (L[k]?).map fun c => if k + 1 = j ∨ k = j then c.bare else c := fun k => by rw [hg]; simp only [hc, true_and]
  have bk : ∀ c : Ce, c.bare.kind = 0 := fun _ => rfl
  refine ⟨fun i c h => ?_, fun i c h hk1 => ?_, fun i c h hk1 => ?_⟩
  ·rw [hg] at h
   obtain ⟨d, hd, rfl⟩ := Option.map_eq_some_iff.1 h
   split
   ·exact .inl rfl
   ·exact w.kinds i d hd
  ·rw [hg] at h
   obtain ⟨d, hd, rfl⟩ := Option.map_eq_some_iff.1 h
   split at hk1
   ·rw [bk] at hk1; omega
   ·rename_i hij
    rw [if_neg hij, hg, w.left i d hd hk1, Option.map_some]
    rw [if_neg]
    rintro (h2 | h2)
    ·have : L[j - 1]? = some d.half := by rw [← w.left i d hd hk1]; congr 1; omega
     rw [ha] at this; cases this; rw [half_kind] at hk; omega
    ·omega
  ·rw [hg] at h
   obtain ⟨d, hd, rfl⟩ := Option.map_eq_some_iff.1 h
   split at hk1
   ·rw [bk] at hk1; omega
   ·rename_i hij
    rw [if_neg hij]
    obtain ⟨m, e, rfl, he, hk2, hk3⟩ := w.right i d hd hk1
    refine ⟨m, e, rfl, ?_, hk2, hk3⟩
    rw [hg, he, Option.map_some, if_neg]
    rintro (h2 | h2)
    ·exact hij (.inr h2)
    ·subst h2; rw [he] at hb; cases hb; rw [half_kind] at hk2; omega
 ·have : breakF L x = L := by
   apply List.ext_getElem?
   intro k
   rw [hg]
   have : ∀ c : Ce, (if cutF L (clampN x L.length) = true ∧ (k + 1 = clampN x L.length ∨ k = clampN x L.length) then c.bare else c) = c := fun c => if_neg fun h => hc h.1
   simp only [this, Option.map_id']
  rw [this]; exact w
theorem breakF_cut (L : List Ce) (x : Int) {j : Nat} (h : cutF (breakF L x) j = true) : cutF L j = true ∧ j ≠ clampN x L.length := by
 obtain ⟨a, b, h0, ha, hb, h1, h2⟩ := cutF_iff.1 h
 rw [breakF_get] at ha hb
 obtain ⟨c, hc, rfl⟩ := Option.map_eq_some_iff.1 ha
 obtain ⟨d, hd, rfl⟩ := Option.map_eq_some_iff.1 hb
 have bk : ∀ c : Ce, c.bare.kind = 0 := fun _ => rfl
 split at h1
 ·rw [bk] at h1; omega
 split at h2
 ·rw [bk] at h2; omega
 rename_i n1 n2
 have hcut : cutF L j = true := cutF_iff.2 ⟨c, d, h0, hc, hd, h1, h2⟩
 refine ⟨hcut, fun he => ?_⟩
 subst he
 exact n2 ⟨hcut, .inr rfl⟩
theorem Wh.take (w : Wh L) {n : Nat} (h : ¬ cutF L n = true) : Wh (L.take n) := by
 refine ⟨fun i c hc => ?_, fun i c hc hk => ?_, fun i c hc hk => ?_⟩
 all_goals
  rw [List.getElem?_take] at hc
  split at hc
  rotate_left
  ·cases hc
  rename_i hi
 ·exact w.kinds i c hc
 ·have := w.left i c hc hk
  rw [List.getElem?_take, if_pos, this]
  rcases Nat.lt_or_ge (i + 1) n with h1 | h1
  ·exact h1
  ·exact absurd (cutF_iff.2 ⟨c, c.half, by omega, by rw [show n - 1 = i by omega]; exact hc, by rw [show n = i + 1 by omega]; exact this, hk, rfl⟩) h
 ·obtain ⟨j, d, rfl, hd, h1, h2⟩ := w.right i c hc hk
  exact ⟨j, d, rfl, by rw [List.getElem?_take, if_pos (by omega)]; exact hd, h1, h2⟩
theorem Wh.drop (w : Wh L) {n : Nat} (h : ¬ cutF L n = true) : Wh (L.drop n) := by
 refine ⟨fun i c hc => ?_, fun i c hc hk => ?_, fun i c hc hk => ?_⟩
 all_goals rw [List.getElem?_drop] at hc
 ·exact w.kinds _ c hc
 ·rw [List.getElem?_drop]; exact w.left _ c hc hk
 ·obtain ⟨j, d, hj, hd, h1, h2⟩ := w.right _ c hc hk
  rcases Nat.eq_zero_or_pos i with h0 | h0
  ·subst h0
   exact absurd (cutF_iff.2 ⟨d, c, by omega, by rw [show n - 1 = j by omega]; exact hd, by simpa using hc, h1, hk⟩) h
  ·exact ⟨i - 1, d, by omega, by rw [List.getElem?_drop, show n + (i - 1) = j by omega]; exact hd, h1, h2⟩
theorem Wh.append (w : Wh A) (u : Wh B) : Wh (A ++ B) := by
 refine ⟨fun i c hc => ?_, fun i c hc hk => ?_, fun i c hc hk => ?_⟩
 all_goals
  by_cases hi : i < A.length
  ·rw [List.getElem?_append_left hi] at hc
   first
    | exact w.kinds i c hc
    | (have := w.left i c hc hk
       rw [List.getElem?_append_left (List.getElem?_eq_some_iff.1 this).1]; exact this)
    | (obtain ⟨j, d, rfl, hd, h1, h2⟩ := w.right i c hc hk
       exact ⟨j, d, rfl, by rw [List.getElem?_append_left (by omega)]; exact hd, h1, h2⟩)
  ·rw [List.getElem?_append_right (by omega)] at hc
   first
    | exact u.kinds _ c hc
    | (have := u.left _ c hc hk
       rw [List.getElem?_append_right (by omega), show i + 1 - A.length = i - A.length + 1 by omega]; exact this)
    | (obtain ⟨j, d, hj, hd, h1, h2⟩ := u.right _ c hc hk
       exact ⟨A.length + j, d, by omega, by rw [List.getElem?_append_right (by omega), Nat.add_sub_cancel_left]; exact hd, h1, h2⟩)
theorem Wh.narrow (h : ∀ c ∈ L, c.kind = 0) : Wh L :=
 ⟨fun i c hc => .inl (h c (List.mem_of_getElem? hc)), fun i c hc hk => by have := h c (List.mem_of_getElem? hc); omega, fun i c hc hk => by have := h c (List.mem_of_getElem? hc); omega⟩
theorem Wh.rep (n : Nat) {c : Ce} (h : c.kind = 0) : Wh (List.replicate n c) := .narrow fun d hd => by rw [(List.mem_replicate.1 hd).2]; exact h
theorem Wh.put (c : Ce) (wide : Bool) : Wh (putC c wide) := by
 unfold putC
 cases wide with
 | false => exact .narrow fun d hd => by simp at hd; subst hd; rfl
 | true =>
  refine ⟨fun i d hd => ?_, fun i d hd hk => ?_, fun i d hd hk => ?_⟩
  all_goals
   match i, hd with
   | 0, hd => cases hd; first | exact .inr (.inl rfl) | rfl | cases hk
   | 1, hd => cases hd; first | exact .inr (.inr rfl) | exact ⟨0, _, rfl, rfl, rfl, rfl⟩ | cases hk
   | i + 2, hd => simp at hd
theorem brk2_cut (L : List Ce) (x y : Int) {j : Nat} (h : cutF (brk2 L x y) j = true) : j ≠ clampN x L.length ∧ j ≠ clampN y L.length := by
 obtain ⟨h1, h2⟩ := breakF_cut _ _ h
 rw [breakF_len] at h2
 exact ⟨(breakF_cut _ _ h1).2, h2⟩
theorem Wh.brk2 (w : Wh L) (x y : Int) : Wh (brk2 L x y) := (w.brk x).brk y
theorem Wh.insert (w : Wh L) (x n : Int) {c : Ce} (hc : c.kind = 0) : Wh (insertF L x n c) := by
 unfold insertF
 have h1 := clampN_le x L.length
 have h2 := clampN_le n (L.length - clampN x L.length)
 generalize clampN x L.length = p at *
 generalize clampN n (L.length - p) = k at *
 have hcut : ∀ j, cutF (Run.brk2 L (p : Nat) (L.length - k : Nat)) j = true → j ≠ p ∧ j ≠ L.length - k := fun j hj => by
  have := brk2_cut _ _ _ hj
  rwa [clampN_nat (by omega), clampN_nat (by omega)] at this
 have wB := w.brk2 (p : Nat) (L.length - k : Nat)
 generalize Run.brk2 L (p : Nat) (L.length - k : Nat) = B at *
 refine ((wB.take fun h => (hcut _ h).1 rfl).append (.rep _ hc)).append ?_
 refine (wB.take fun h => (hcut _ h).2 rfl).drop fun h => ?_
 obtain ⟨a, b, h0, ha, hb, k1, k2⟩ := cutF_iff.1 h
 rw [List.getElem?_take] at ha hb
 split at hb
 ·rw [if_pos (by omega)] at ha
  exact (hcut _ (cutF_iff.2 ⟨a, b, h0, ha, hb, k1, k2⟩)).1 rfl
 ·cases hb
theorem Wh.delete (w : Wh L) (x n : Int) {c : Ce} (hc : c.kind = 0) : Wh (deleteF L x n c) := by
 unfold deleteF
 have h1 := clampN_le x L.length
 have h2 := clampN_le n (L.length - clampN x L.length)
 generalize clampN x L.length = p at *
 generalize clampN n (L.length - p) = k at *
 have hcut : ∀ j, cutF (Run.brk2 L (p : Nat) (p + k : Nat)) j = true → j ≠ p ∧ j ≠ p + k := fun j hj => by
  have := brk2_cut _ _ _ hj
  rwa [clampN_nat (by omega), clampN_nat (by omega)] at this
 have wB := w.brk2 (p : Nat) (p + k : Nat)
 generalize Run.brk2 L (p : Nat) (p + k : Nat) = B at *
 exact ((wB.take fun h => (hcut _ h).1 rfl).append (wB.drop fun h => (hcut _ h).2 rfl)).append (.rep _ hc)
theorem Wh.erase (w : Wh L) (x y : Int) {c : Ce} (hc : c.kind = 0) : Wh (eraseF L x y c) := by
 unfold eraseF
 have h1 := clampN_le x L.length
 have h2 := clampN_le y L.length
 generalize clampN x L.length = p at *
 generalize clampN y L.length = k at *
 split
 ·exact w
 have hcut : ∀ j, cutF (Run.brk2 L (p : Nat) (k : Nat)) j = true → j ≠ p ∧ j ≠ k := fun j hj => by
  have := brk2_cut _ _ _ hj
  rwa [clampN_nat (by omega), clampN_nat (by omega)] at this
 have wB := w.brk2 (p : Nat) (k : Nat)
 generalize Run.brk2 L (p : Nat) (k : Nat) = B at *
 exact ((wB.take fun h => (hcut _ h).1 rfl).append (.rep _ hc)).append (wB.drop fun h => (hcut _ h).2 rfl)
theorem Wh.resize (w : Wh L) (n : Nat) {c : Ce} (hc : c.kind = 0) : Wh (resizeF L n c) := by
 unfold resizeF
 have wB := w.brk n
 have hcut : ∀ j, cutF (breakF L n) j = true → j ≠ clampN n L.length := fun j hj => (breakF_cut _ _ hj).2
 have hlen := breakF_len L n
 generalize breakF L n = B at *
 refine Wh.append ?_ (.rep _ hc)
 refine wB.take fun h => hcut _ h ?_
 obtain ⟨a, b, h0, ha, hb, _⟩ := cutF_iff.1 h
 have := (List.getElem?_eq_some_iff.1 hb).1
 rw [clampN_nat (by omega)]
theorem Wh.putF (w : Wh L) (x : Int) (c : Ce) (wide : Bool) : Wh (putF L x c wide) := by
 unfold Run.putF
 split
 ·exact w
 rename_i h
 have hcut : ∀ j, cutF (Run.brk2 L x (x + (putC c wide).length)) j = true → j ≠ x.toNat ∧ j ≠ (x + (putC c wide).length).toNat := fun j hj => by
  have := brk2_cut _ _ _ hj
  have e1 : clampN x L.length = x.toNat := by unfold clampN; omega
  have e2 : clampN (x + (putC c wide).length) L.length = (x + (putC c wide).length).toNat := by unfold clampN; omega
  rwa [e1, e2] at this
 have wB := w.brk2 x (x + (putC c wide).length)
 generalize Run.brk2 L x (x + (putC c wide).length) = B at *
 exact ((wB.take fun h => (hcut _ h).1 rfl).append (.put c wide)).append (wB.drop fun h => (hcut _ h).2 rfl)
theorem Wh.raise (w : Wh L) (l : Int) : Wh (L.map (Ce.raise l)) := by
 have hh : ∀ c : Ce, (c.raise l).half = c.half.raise l := fun _ => rfl
 refine ⟨fun i c hc => ?_, fun i c hc hk => ?_, fun i c hc hk => ?_⟩
 all_goals
  rw [List.getElem?_map] at hc
  obtain ⟨d, hd, rfl⟩ := Option.map_eq_some_iff.1 hc
 ·exact w.kinds i d hd
 ·rw [List.getElem?_map, w.left i d hd hk]; rfl
 ·obtain ⟨j, e, rfl, he, h1, h2⟩ := w.right i d hd hk
  exact ⟨j, e.raise l, rfl, by rw [List.getElem?_map, he]; rfl, h1, by rw [h2]; rfl⟩
theorem marked_half (c : Ce) (m l : Int) : (c.marked m l).half = c.half.raise l ∧ (c.marked m l).kind = c.kind := by
 obtain ⟨k1, k2, k3, k4⟩ := Ce.mark_kind c m
 unfold Ce.marked Ce.raise Ce.half
 simp only [k1, k2, k4]
 exact ⟨trivial, trivial⟩
theorem Wh.markAt (w : Wh L) (i : Nat) (m l : Int) (hk : ∀ c, L[i]? = some c → c.kind ≠ 2) : Wh (markAt L i m l) := by
 unfold Run.markAt
 split
 ·exact w
 rename_i c hc
 have hlt := (List.getElem?_eq_some_iff.1 hc).1
 have hk := hk c hc
 obtain ⟨mh, mk⟩ := marked_half c m l
 split
 ·exact w
 split
 ·rename_i h1
  have hn := w.left i c hc h1
  have hlt1 := (List.getElem?_eq_some_iff.1 hn).1
  rw [hn]
  simp only
  have hg : ∀ j, ((L.set i (c.marked m l)).set (i + 1) (c.half.raise l))[j]? = if j = i + 1 then some (c.half.raise l) else if j = i then some (c.marked m l) else L[j]? := fun j => by
   rw [List.getElem?_set, List.getElem?_set]
   by_cases e1 : j = i + 1
   ·subst e1; rw [if_pos rfl, if_pos rfl, if_pos (by simpa using hlt1)]
   ·rw [if_neg (by omega), if_neg e1]
    by_cases e2 : j = i
    ·subst e2; rw [if_pos rfl, if_pos rfl, if_pos hlt]
    ·rw [if_neg (by omega), if_neg e2]
  generalize (L.set i (c.marked m l)).set (i + 1) (c.half.raise l) = K at hg
  refine ⟨fun j d hd => ?_, fun j d hd hj => ?_, fun j d hd hj => ?_⟩
  all_goals rw [hg] at hd
  ·split at hd
   ·cases hd; exact .inr (.inr rfl)
   split at hd
   ·cases hd; rw [mk]; exact .inr (.inl h1)
   exact w.kinds j d hd
  ·split at hd
   ·cases hd; cases hj
   split at hd
   ·rename_i e; cases hd; subst e; rw [hg, if_pos rfl, mh]
   ·rename_i n1 n2
    have := w.left j d hd hj
    rw [hg, if_neg (by omega), if_neg, this]
    intro e
    rw [e, hc] at this; cases this; rw [half_kind] at h1; omega
  ·split at hd
   ·rename_i e; cases hd; exact ⟨i, c.marked m l, e, by rw [hg, if_neg (by omega), if_pos rfl], by rw [mk]; exact h1, mh.symm⟩
   split at hd
   ·cases hd; rw [mk] at hj; omega
   ·rename_i n1 n2
    obtain ⟨p, e, rfl, he, q1, q2⟩ := w.right j d hd hj
    refine ⟨p, e, rfl, ?_, q1, q2⟩
    rw [hg, if_neg, if_neg (by omega)]
    ·exact he
    ·intro e'; rw [e', hn] at he; cases he; rw [half_kind] at q1; omega
 ·rename_i h1
  have hg : ∀ j, (L.set i (c.marked m l))[j]? = if j = i then some (c.marked m l) else L[j]? := fun j => by
   rw [List.getElem?_set]
   by_cases e2 : j = i
   ·subst e2; rw [if_pos rfl, if_pos rfl, if_pos hlt]
   ·rw [if_neg (by omega), if_neg e2]
  have h0 : c.kind = 0 := by rcases w.kinds i c hc with h | h | h <;> omega
  generalize L.set i (c.marked m l) = K at hg
  refine ⟨fun j d hd => ?_, fun j d hd hj => ?_, fun j d hd hj => ?_⟩
  all_goals
   rw [hg] at hd
   split at hd
  ·cases hd; rw [mk]; exact .inl h0
  ·exact w.kinds j d hd
  ·cases hd; rw [mk] at hj; omega
  ·have := w.left j d hd hj
   rw [hg, if_neg, this]
   intro e; rw [e, hc] at this; cases this; rw [half_kind] at h0; omega
  ·cases hd; rw [mk] at hj; omega
  ·obtain ⟨p, e, rfl, he, q1, q2⟩ := w.right j d hd hj
   refine ⟨p, e, rfl, ?_, q1, q2⟩
   rw [hg, if_neg]
   ·exact he
   ·rintro rfl; rw [hc] at he; cases he; omega
theorem Wh.markF (w : Wh L) (x m l : Int) : Wh (markF L x m l) := by
 unfold Run.markF
 split
 ·exact w
 split
 ·exact w
 rename_i c hc
 split
 ·rename_i h
  obtain ⟨j, d, hj, hd, h1, h2⟩ := w.right _ c hc h.1
  refine w.markAt _ m l fun e he => ?_
  rw [show x.toNat - 1 = j by omega, hd] at he
  cases he; omega
 ·rename_i h
  refine w.markAt _ m l fun e he => ?_
  rw [hc] at he; cases he
  intro hk
  obtain ⟨j, d, hj, hd, h1, h2⟩ := w.right _ c hc hk
  omega
end
section
variable (L : List Ce)
theorem resizeF_len (n : Nat) (c : Ce) : (resizeF L n c).length = n := by
 unfold resizeF
 simp only [List.length_append, List.length_take, List.length_replicate, breakF_len]
 omega
end
end Go.Proofs.Ytifemfnjoobiiaa.Run
