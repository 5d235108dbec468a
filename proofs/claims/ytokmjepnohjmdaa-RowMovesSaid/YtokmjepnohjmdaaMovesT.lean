/- What the text of a drawn row is made of, and what is read out of it: plain Lean. -/
import Derived.Test.YtokmjepnohjmdaaMovesP
namespace Go.Proofs.Ytokmjepnohjmdaa.Run
open Go Go.RowKit
set_option linter.unusedVariables false
set_option linter.unusedSimpArgs false

/-- a cell of a row that is drawn -/
def Ce.drawn (c : Ce) : Prop := (c.rune = 0 ∨ (97 ≤ c.rune ∧ c.rune ≤ 122)) ∧ (c.m1 = 0 ∨ c.m1 = 769) ∧ (c.m2 = 0 ∨ c.m2 = 769)
theorem Ce.drawn.plain {c : Ce} (h : c.drawn) : c.plain := by
  obtain ⟨h1, h2, h3⟩ := h
  exact ⟨.inl (by omega), by rcases h2 with h | h; exact .inl (by omega); exact .inr h, by rcases h3 with h | h; exact .inl (by omega); exact .inr h⟩
theorem bare_drawn (c : Ce) : c.bare.drawn := ⟨.inl rfl, .inl rfl, .inl rfl⟩
theorem half_drawn (c : Ce) : c.half.drawn := ⟨.inl rfl, .inl rfl, .inl rfl⟩
theorem brk_drawn {L : List Ce} (h : ∀ c ∈ L, c.drawn) (x : Int) : ∀ c ∈ breakF L x, c.drawn := by
  intro c hc
  obtain ⟨k, hk⟩ := List.mem_iff_getElem?.1 hc
  rw [breakF_get] at hk
  obtain ⟨d, hd, rfl⟩ := Option.map_eq_some_iff.1 hk
  split
  · exact bare_drawn d
  · exact h d (List.mem_of_getElem? hd)
theorem put_drawn {L : List Ce} (h : ∀ c ∈ L, c.drawn) (x : Int) {c : Ce} (hc : c.drawn) (w : Bool) : ∀ d ∈ putF L x c w, d.drawn := by
  have hb : ∀ y z : Int, ∀ d ∈ brk2 L y z, d.drawn := fun y z => brk_drawn (brk_drawn h y) z
  intro d hd
  unfold putF at hd
  split at hd
  · exact h d hd
  · rcases List.mem_append.1 hd with hd | hd
    · rcases List.mem_append.1 hd with hd | hd
      · exact hb _ _ d (List.mem_of_mem_take hd)
      · unfold putC at hd
        split at hd
        · rcases List.mem_cons.1 hd with rfl | hd
          · exact hc
          · rw [List.mem_singleton] at hd; subst hd; exact half_drawn c
        · rw [List.mem_singleton] at hd; subst hd; exact hc
    · exact hb _ _ d (List.mem_of_mem_drop hd)
theorem cell_drawn {d : Dr} (h : d.ok) (l : Int) : ({ cellF d with label := l } : Ce).drawn := by
  refine ⟨.inr ?_, ?_, ?_⟩
  · have := Int.emod_nonneg d.rune (show (26 : Int) ≠ 0 by decide)
    have := Int.emod_lt_of_pos d.rune (show (0 : Int) < 26 by decide)
    show 97 ≤ 97 + d.rune % 26 ∧ 97 + d.rune % 26 ≤ 122
    omega
  · show (if 1 ≤ d.marks % 8 then (769 : Int) else 0) = 0 ∨ (if 1 ≤ d.marks % 8 then (769 : Int) else 0) = 769
    split <;> simp
  · show (if 2 ≤ d.marks % 8 then (769 : Int) else 0) = 0 ∨ (if 2 ≤ d.marks % 8 then (769 : Int) else 0) = 769
    split <;> simp
theorem fill_drawn {A : List Lv} {D O : List Dr} (hD : ∀ d ∈ D, d.ok) (hO : ∀ d ∈ O, d.ok) {r : List Ce} (h : ∀ c ∈ r, c.drawn) (i : Nat) : ∀ c ∈ fillStep A D O r i, c.drawn := by
  unfold fillStep
  split
  · rename_i a d c h1 h2 h3
    split
    · exact h
    · refine put_drawn h _ (cell_drawn ?_ _) _
      unfold pickF at h2
      rw [h1] at h2
      simp only at h2
      split at h2
      · exact hO d (List.mem_of_getElem? h2)
      · exact hD d (List.mem_of_getElem? h2)
  · exact h
theorem row_drawn (c : Int) {D O : List Dr} (hD : ∀ d ∈ D, d.ok) (hO : ∀ d ∈ O, d.ok) : ∀ x ∈ rowF c D O, x.drawn := by
  have base : ∀ A : List Lv, ∀ x ∈ baseF A, x.drawn := fun A x hx => by
    obtain ⟨a, _, rfl⟩ := List.mem_map.1 hx
    exact ⟨.inl rfl, .inl rfl, .inl rfl⟩
  have folds : ∀ (A : List Lv) (l : List Nat) (r : List Ce), (∀ x ∈ r, x.drawn) → ∀ x ∈ l.foldl (fillStep A D O) r, x.drawn := by
    intro A l
    induction l with
    | nil => intro r h; exact h
    | cons i l ih => intro r h; exact ih _ (fill_drawn hD hO h i)
  unfold rowF filledF
  split
  · exact base _
  · exact folds _ _ _ (base _)

/-! ### The runes of a text -/

def markR (m : Int) : List Int := if m = 0 then [] else [m]
def cellR (c : Ce) : List Int := if c.kind = 2 then [] else if c.rune = 0 then [32] else c.rune :: (markR c.m1 ++ markR c.m2)
def textR (L : List Ce) : List Int := L.flatMap cellR
theorem cellB_eq (c : Ce) : cellB c = (cellR c).flatMap runeB := by
  have hm : ∀ m : Int, markB m = (markR m).flatMap runeB := fun m => by unfold markB markR; split <;> simp
  unfold cellB cellR
  split
  · rfl
  · split
    · rfl
    · rw [hm, hm]; simp
theorem textB_eq (L : List Ce) : textB L = (textR L).flatMap runeB := by
  unfold textB textR
  rw [List.flatMap_assoc]
  congr 1
  funext c
  exact cellB_eq c
/-- what is shown of a cell: one rune that is no accent, but of a Right -/
theorem cellR_count {c : Ce} (h : c.drawn) : (cellR c).countP (fun r => decide (r ≠ 769)) = if c.kind = 2 then 0 else 1 := by
  obtain ⟨h1, h2, h3⟩ := h
  have hm : ∀ m : Int, m = 0 ∨ m = 769 → (markR m).countP (fun r => decide (r ≠ 769)) = 0 := fun m hm => by
    unfold markR
    split
    · rfl
    · rcases hm with h | h
      · exact absurd h (by assumption)
      · rw [h]; rfl
  unfold cellR
  split
  · rfl
  · split
    · rfl
    · have hr : (decide (c.rune ≠ 769)) = true := decide_eq_true (by omega)
      rw [List.countP_cons_of_pos (by simpa using hr), List.countP_append, hm _ h2, hm _ h3]
theorem textR_count : ∀ {L : List Ce}, (∀ c ∈ L, c.drawn) → (textR L).countP (fun r => decide (r ≠ 769)) = L.countP (fun c => decide (c.kind ≠ 2))
  | [], _ => rfl
  | c :: L, h => by
    have e : textR (c :: L) = cellR c ++ textR L := rfl
    rw [e, List.countP_append, textR_count fun d hd => h d (List.mem_cons_of_mem _ hd), cellR_count (h c List.mem_cons_self), List.countP_cons]
    by_cases hk : c.kind = 2
    · rw [if_pos hk]; simp [hk]
    · rw [if_neg hk]; simp [hk]; omega
theorem textR_ok : ∀ {L : List Ce}, (∀ c ∈ L, c.drawn) → ∀ r ∈ textR L, (0 ≤ r ∧ r ≤ 127) ∨ r = 769 := by
  intro L h r hr
  obtain ⟨c, hc, hr⟩ := List.mem_flatMap.1 hr
  obtain ⟨h1, h2, h3⟩ := h c hc
  have hm : ∀ m : Int, m = 0 ∨ m = 769 → r ∈ markR m → (0 ≤ r ∧ r ≤ 127) ∨ r = 769 := fun m hm hr => by
    unfold markR at hr
    split at hr
    · simp at hr
    · rw [List.mem_singleton] at hr; subst hr; rcases hm with h | h
      · exact .inl (by omega)
      · exact .inr h
  unfold cellR at hr
  split at hr
  · simp at hr
  · split at hr
    · rw [List.mem_singleton] at hr; exact .inl (by omega)
    · rcases List.mem_cons.1 hr with rfl | hr
      · exact .inl (by omega)
      · rcases List.mem_append.1 hr with hr | hr
        · exact hm _ h2 hr
        · exact hm _ h3 hr

/-! ### Reading it -/

theorem strB_size (s : List Lv) : (strB s).size = s.length := by simp [strB, ByteArray.size]
theorem strB_get {s : List Lv} {k : Nat} {x : Lv} (h : s[k]? = some x) : (strB s).get! k = x.n.toNat.toUInt8 := by
  have hk := (List.getElem?_eq_some_iff.1 h).1
  show (strB s).data[k]! = _
  simp only [strB]
  rw [getElem!_def]
  simp [h]
theorem decode_at {s : List Lv} {p : Nat} {r : Int} {t : List Lv} (h : s.drop p = runeB r ++ t) (hr : runeOK r) : Utf8.decode (strB s) p = (r.toNat, (runeB r).length) := by
  have g : ∀ k, s[p + k]? = (runeB r ++ t)[k]? := fun k => by rw [← h, List.getElem?_drop]
  rcases hr with hr | rfl
  · have e : runeB r = [⟨r⟩] := by unfold runeB; rw [if_pos hr.2]
    have h0 := g 0
    rw [e] at h0 ⊢
    have h1 := strB_get (s := s) (k := p + 0) (x := ⟨r⟩) (by rw [h0]; rfl)
    unfold Utf8.decode
    simp only [h1]
    have h2 : r.toNat.toUInt8.toNat = r.toNat := by
      show (UInt8.ofNat r.toNat).toNat = _
      rw [UInt8.toNat_ofNat']; omega
    rw [h2, if_pos (by omega)]
    rfl
  · have e : runeB 769 = [⟨204⟩, ⟨129⟩] := rfl
    have h0 := g 0
    have h1 := g 1
    rw [e] at h0 h1
    have b0 := strB_get (s := s) (k := p + 0) (x := ⟨204⟩) (by rw [h0]; rfl)
    have b1 := strB_get (s := s) (k := p + 1) (x := ⟨129⟩) (by rw [h1]; rfl)
    have hz : p + 1 < (strB s).size := by
      rw [strB_size]
      exact (List.getElem?_eq_some_iff.1 (show s[p + 1]? = some (⟨129⟩ : Lv) by rw [h1]; rfl)).1
    unfold Utf8.decode
    simp only [b0, b1, hz, decide_true, Bool.true_and]
    rfl
end Go.Proofs.Ytokmjepnohjmdaa.Run
