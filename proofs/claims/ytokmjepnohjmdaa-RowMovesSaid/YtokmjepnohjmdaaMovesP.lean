/- What rows do that are inserted into, deleted from, made longer and cut again; and what their texts are: plain Lean. -/
import Derived.Test.YtokmjepnohjmdaaRowPB
import Derived.Test.YtokmjepnohjmdaaText
namespace Go.Proofs.Ytokmjepnohjmdaa.Run
open Go Go.RowKit
set_option linter.unusedVariables false
set_option linter.unusedSimpArgs false

theorem cutF_congr {L K : List Ce} {i j : Nat} (h0 : 0 < i ↔ 0 < j) (h1 : L[i - 1]? = K[j - 1]?) (h2 : L[i]? = K[j]?) : cutF L i = true ↔ cutF K j = true := by
  rw [cutF_iff, cutF_iff, h0, h1, h2]
theorem breakF_no {L : List Ce} {p : Nat} (hp : p ≤ L.length) (h : ¬ cutF L p = true) : breakF L (p : Nat) = L := by
  rw [breakF_clamp, clampN_nat hp, if_neg h]
theorem breakF_once {L : List Ce} {p : Nat} (hp : p ≤ L.length) : ¬ cutF (breakF L (p : Nat)) p = true := fun h => by
  have := (breakF_cut _ _ h).2
  rw [clampN_nat hp] at this
  exact this rfl
theorem cutF_end {L : List Ce} {p : Nat} (h : L.length ≤ p) : ¬ cutF L p = true := fun hc => by
  obtain ⟨a, b, _, _, hb, _⟩ := cutF_iff.1 hc
  rw [List.getElem?_eq_none h] at hb; cases hb
theorem cutF_blank {L : List Ce} {p : Nat} {c : Ce} (hc : c.kind = 0) (h : L[p]? = some c ∨ L[p - 1]? = some c) : ¬ cutF L p = true := fun hq => by
  obtain ⟨a, b, _, ha, hb, h1, h2⟩ := cutF_iff.1 hq
  rcases h with h | h
  · rw [hb] at h; cases h; omega
  · rw [ha] at h; cases h; omega

/-- a part, what comes behind a gap, and some more -/
theorem tdr {B : List Ce} {p q n : Nat} {c : Ce} (hpq : p ≤ q) (hq : q ≤ B.length) (k : Nat) : (B.take p ++ B.drop q ++ List.replicate n c)[k]? = if k < p then B[k]? else if k + (q - p) < B.length then B[k + (q - p)]? else if k + (q - p) < B.length + n then some c else none := by
  have hl : (B.take p ++ B.drop q).length = p + (B.length - q) := by simp only [List.length_append, List.length_take, List.length_drop]; omega
  have hp : (B.take p).length = p := by rw [List.length_take]; omega
  by_cases h1 : k < p
  · rw [if_pos h1, List.getElem?_append_left (by omega), List.getElem?_append_left (by omega), List.getElem?_take, if_pos h1]
  · rw [if_neg h1]
    by_cases h2 : k + (q - p) < B.length
    · rw [if_pos h2, List.getElem?_append_left (by omega), List.getElem?_append_right (by omega), List.getElem?_drop, hp]
      congr 1; omega
    · rw [if_neg h2, List.getElem?_append_right (by omega), hl, List.getElem?_replicate]
      by_cases h3 : k + (q - p) < B.length + n
      · rw [if_pos h3, if_pos (by omega)]
      · rw [if_neg h3, if_neg (by omega)]

/-- What is inserted and deleted again leaves what was not cut. -/
theorem ins_del {L : List Ce} {p n : Nat} {c : Ce} (hc : c.kind = 0) (hp : p ≤ L.length) {m e : Nat} (hm : m = min n (L.length - p)) (he : e = L.length - m) :
    deleteF (insertF L (p : Nat) (n : Nat) c) (p : Nat) (n : Nat) c = (brk2 L (p : Nat) (e : Nat)).take e ++ List.replicate m c := by
  have c1 : clampN (p : Nat) L.length = p := clampN_nat hp
  have c2 : clampN (n : Nat) (L.length - p) = m := by unfold clampN; omega
  obtain ⟨B, hB⟩ : ∃ B, B = brk2 L (p : Nat) (e : Nat) := ⟨_, rfl⟩
  have hBl : B.length = L.length := by rw [hB]; exact brk2_len ..
  have hI : insertF L (p : Nat) (n : Nat) c = B.take p ++ List.replicate m c ++ (B.take e).drop p := by
    unfold insertF; rw [c1, c2, ← he, ← hB]
  obtain ⟨I, hIe⟩ : ∃ I, I = B.take p ++ List.replicate m c ++ (B.take e).drop p := ⟨_, rfl⟩
  have hIl : I.length = L.length := by rw [hIe]; simp only [List.length_append, List.length_take, List.length_replicate, List.length_drop]; omega
  have hBp : (B.take p).length = p := by rw [List.length_take]; omega
  have g1 : ∀ k, k < m → I[p + k]? = some c := fun k hk => by
    rw [hIe, List.append_assoc, List.getElem?_append_right (by omega), hBp, List.getElem?_append_left (by rw [List.length_replicate]; omega), List.getElem?_replicate, if_pos (by omega)]
  have id0 : m = 0 → I = B := fun h => by
    have hee : e = B.length := by omega
    rw [hIe, h, hee, List.take_length]; simp
  have n1 : ¬ cutF I p = true := by
    by_cases h : m = 0
    · rw [id0 h, hB]; intro hq
      have := (brk2_cut _ _ _ hq).1
      rw [c1] at this; exact this rfl
    · exact cutF_blank hc (.inl (by have := g1 0 (by omega); simpa using this))
  have n2 : ¬ cutF I (p + m) = true := by
    by_cases h : m = 0
    · rw [h]; exact n1
    · exact cutF_blank hc (.inr (by rw [show p + m - 1 = p + (m - 1) by omega]; exact g1 (m - 1) (by omega)))
  have hb : brk2 I (p : Nat) ((p + m : Nat)) = I := by
    unfold brk2
    rw [breakF_no (by omega) n1, breakF_no (by omega) n2]
  rw [hI, ← hIe]
  unfold deleteF
  rw [hIl, c1, c2, hb, ← hB, hIe]
  have hq : (B.take p ++ List.replicate m c).length = p + m := by simp only [List.length_append, List.length_replicate]; omega
  rw [List.drop_append_of_le_length (by omega), ← hq, List.drop_length, List.nil_append]
  congr 1
  rw [List.append_assoc, List.take_append_of_le_length (by omega), List.take_take, Nat.min_self]
  have : B.take p = (B.take e).take p := by rw [List.take_take, Nat.min_eq_left (by omega)]
  rw [this, List.take_append_drop]

/-- Two deletes are one of both. -/
theorem del_del {L : List Ce} (w : Wh L) {p n m : Nat} {c : Ce} (hc : c.kind = 0) (h : p + n + m ≤ L.length) :
    deleteF (deleteF (breakF L ((p + n : Nat))) (p : Nat) (n : Nat) c) (p : Nat) (m : Nat) c = deleteF (breakF L ((p + n : Nat))) (p : Nat) ((n + m : Nat)) c := by
  obtain ⟨K, hK⟩ : ∃ K, K = breakF L ((p + n : Nat)) := ⟨_, rfl⟩
  have hKl : K.length = L.length := by rw [hK]; exact breakF_len ..
  have wK : Wh K := hK ▸ w.brk _
  have nK : ¬ cutF K (p + n) = true := hK ▸ breakF_once (by omega)
  obtain ⟨C, hC⟩ : ∃ C, C = breakF K (p : Nat) := ⟨_, rfl⟩
  have hCl : C.length = L.length := by rw [hC, breakF_len]; exact hKl
  have wC : Wh C := hC ▸ wK.brk _
  have nC1 : ¬ cutF C p = true := hC ▸ breakF_once (by omega)
  have nC2 : ¬ cutF C (p + n) = true := fun hq => nK (by rw [hC] at hq; exact (breakF_cut _ _ hq).1)
  have e1 : brk2 K (p : Nat) ((p + n : Nat)) = C := by unfold brk2; rw [← hC]; exact breakF_no (by omega) nC2
  rw [← hK]
  obtain ⟨X, hX⟩ : ∃ X, X = C.take p ++ C.drop (p + n) ++ List.replicate n c := ⟨_, rfl⟩
  have d1 : deleteF K (p : Nat) (n : Nat) c = X := by
    unfold deleteF
    rw [hKl, clampN_nat (n := p) (m := L.length) (by omega), clampN_nat (n := n) (m := L.length - p) (by omega), e1, hX]
  have hXl : X.length = L.length := by rw [hX]; simp only [List.length_append, List.length_take, List.length_drop, List.length_replicate]; omega
  have hXg : ∀ k, X[k]? = if k < p then C[k]? else if k + n < L.length then C[k + n]? else if k < L.length then some c else none := fun k => by
    rw [hX, tdr (by omega) (by omega) k, show p + n - p = n by omega, hCl]
    by_cases h1 : k < p
    · rw [if_pos h1, if_pos h1]
    · rw [if_neg h1, if_neg h1]
      by_cases h2 : k + n < L.length
      · rw [if_pos h2, if_pos h2]
      · rw [if_neg h2, if_neg h2]
        by_cases h3 : k < L.length
        · rw [if_pos h3, if_pos (by omega)]
        · rw [if_neg h3, if_neg (by omega)]
  have nX : ¬ cutF X p = true := by
    by_cases h2 : p + n < L.length
    · intro hq
      obtain ⟨a, b, h0, ha, hb, k1, k2⟩ := cutF_iff.1 hq
      rw [hXg, if_neg (by omega), if_pos h2] at hb
      obtain ⟨j, d, hj, hd, hd1, _⟩ := wC.right _ b hb k2
      exact nC2 (cutF_iff.2 ⟨d, b, by omega, by rw [hj]; exact hd, hb, hd1, k2⟩)
    · by_cases h3 : p < L.length
      · exact cutF_blank hc (.inl (by rw [hXg, if_neg (by omega), if_neg h2, if_pos h3]))
      · exact cutF_end (by omega)
  have e2 : brk2 X (p : Nat) ((p + m : Nat)) = breakF X ((p + m : Nat)) := by unfold brk2; rw [breakF_no (by omega) nX]
  have e3 : brk2 K (p : Nat) ((p + (n + m) : Nat)) = breakF C ((p + (n + m) : Nat)) := by unfold brk2; rw [← hC]
  rw [d1]
  unfold deleteF
  rw [hXl, hKl, clampN_nat (n := p) (m := L.length) (by omega), clampN_nat (n := m) (m := L.length - p) (by omega), clampN_nat (n := n + m) (m := L.length - p) (by omega), e2, e3]
  have same : 0 < m → (cutF X (p + m) = true ↔ cutF C (p + (n + m)) = true) := fun hm => by
    by_cases h2 : p + (n + m) < L.length
    · refine cutF_congr (by omega) ?_ ?_
      · rw [hXg, if_neg (by omega), if_pos (by omega)]; congr 1; omega
      · rw [hXg, if_neg (by omega), if_pos (by omega)]; congr 1; omega
    · have q1 : ¬ cutF C (p + (n + m)) = true := cutF_end (by omega)
      have q2 : ¬ cutF X (p + m) = true := by
        by_cases h3 : p + m < L.length
        · exact cutF_blank hc (.inl (by rw [hXg, if_neg (by omega), if_neg (by omega), if_pos h3]))
        · exact cutF_end (by omega)
      exact ⟨fun h => absurd h q2, fun h => absurd h q1⟩
  apply List.ext_getElem?
  intro k
  rw [tdr (by omega) (by rw [breakF_len]; omega) k, tdr (by omega) (by rw [breakF_len]; omega) k, breakF_len, breakF_len, hXl, hCl, show p + m - p = m by omega, show p + (n + m) - p = n + m by omega]
  by_cases h1 : k < p
  · rw [if_pos h1, if_pos h1, breakF_get, breakF_get, hXg, if_pos h1, hXl, hCl, clampN_nat (by omega), clampN_nat (by omega)]
    cases hk : C[k]? with
    | none => rfl
    | some x =>
      simp only [Option.map_some, Option.some.injEq]
      by_cases hm : m = 0
      · subst hm
        rw [if_neg (fun hq => nX hq.1), if_neg (fun hq => nC2 hq.1)]
      · rw [if_neg (by omega), if_neg (by omega)]
  · rw [if_neg h1, if_neg h1]
    by_cases h2 : k + m < L.length
    · rw [if_pos h2, breakF_get, hXg, if_neg (by omega), hXl, clampN_nat (by omega)]
      by_cases h3 : k + m + n < L.length
      · rw [if_pos h3, if_pos (by omega), breakF_get, hCl, clampN_nat (by omega), show k + (n + m) = k + m + n by omega]
        cases hk : C[k + m + n]? with
        | none => rfl
        | some x =>
          simp only [Option.map_some, Option.some.injEq]
          by_cases hm : m = 0
          · subst hm
            rw [if_neg (fun hq => nX hq.1), if_neg (fun hq => nC2 hq.1)]
          · have hs := same (by omega)
            by_cases hq : cutF X (p + m) = true ∧ (k + m + 1 = p + m ∨ k + m = p + m)
            · rw [if_pos hq, if_pos ⟨hs.1 hq.1, by omega⟩]
            · rw [if_neg hq, if_neg (fun hq' => hq ⟨hs.2 hq'.1, by omega⟩)]
      · rw [if_neg h3, if_pos h2, if_neg (by omega), if_pos (by omega)]
        simp only [Option.map_some, Option.some.injEq]
        rw [if_neg]
        rintro ⟨hq, hk⟩
        have hm : ¬ m = 0 := fun h0 => by subst h0; exact nX hq
        have := (same (by omega)).1 hq
        exact cutF_end (by omega) this
    · rw [if_neg h2]
      by_cases h3 : k + m < L.length + m
      · rw [if_pos h3, if_neg (by omega), if_pos (by omega)]
      · rw [if_neg h3, if_neg (by omega), if_neg (by omega)]

/-- Made longer and cut again, a row is as it was. -/
theorem longer {L : List Ce} {m : Nat} {c : Ce} (hc : c.kind = 0) : resizeF (resizeF L (L.length + m) c) L.length c = L := by
  have h1 : resizeF L (L.length + m) c = L ++ List.replicate m c := by
    unfold resizeF
    have : breakF L ((L.length + m : Nat)) = L := by
      rw [breakF_clamp, show clampN ((L.length + m : Nat) : Int) L.length = L.length by unfold clampN; omega, if_neg (cutF_end (Nat.le_refl _))]
    rw [this, List.take_of_length_le (by omega), show L.length + m - L.length = m by omega]
  rw [h1]
  unfold resizeF
  have n1 : ¬ cutF (L ++ List.replicate m c) L.length = true := by
    by_cases h : m = 0
    · exact cutF_end (by simp [h])
    · exact cutF_blank hc (.inl (by rw [List.getElem?_append_right (Nat.le_refl _), Nat.sub_self, List.getElem?_replicate, if_pos (by omega)]))
  rw [breakF_no (by simp) n1, List.take_left, show L.length - (L ++ List.replicate m c).length = 0 by simp]
  simp
end Go.Proofs.Ytokmjepnohjmdaa.Run
