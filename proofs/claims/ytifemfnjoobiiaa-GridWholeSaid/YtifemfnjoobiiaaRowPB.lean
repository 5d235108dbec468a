/- Rows of cells that look alike to Low, in plain words: they do so again behind the same acts; rows that are drawn are whole, and look alike. No program is spoken of. -/
import Derived.Test.YtifemfnjoobiiaaRowP
namespace Go.Proofs.Ytifemfnjoobiiaa.Run
open Go Go.RowKit
set_option linter.unusedVariables false
set_option linter.unusedSimpArgs false
def lowC (c d : Ce) : Prop := c.label = d.label ∧ (c.label = 0 → c = d)
theorem lowC.rfl' (c : Ce) : lowC c c := ⟨rfl, fun _ => rfl⟩
theorem lowC.symm {c d : Ce} (h : lowC c d) : lowC d c := ⟨h.1.symm, fun e => (h.2 (h.1.trans e)).symm⟩
theorem lowC.trans {a b c : Ce} (h : lowC a b) (k : lowC b c) : lowC a c := ⟨h.1.trans k.1, fun e => (h.2 e).trans (k.2 (h.1 ▸ e))⟩
def Lb (L : List Ce) : Prop := ∀ c ∈ L, c.label = 0 ∨ c.label = 1
abbrev Low (L K : List Ce) : Prop := Two lowC L K
theorem Low.refl (L : List Ce) : Low L L := Two.refl fun c _ => lowC.rfl' c
section
variable {L K : List Ce}
theorem joinF_01 (x y : Int) : joinF x y = 0 ∨ joinF x y = 1 := by unfold joinF; split <;> simp
theorem marked_label (c : Ce) (m l : Int) : (c.marked m l).label = joinF c.label l := by
 have := (Ce.mark_kind c m).2.1
 show joinF (c.mark m).label l = _
 rw [this]
theorem Lb.append {A B : List Ce} (h : Lb A) (k : Lb B) : Lb (A ++ B) := fun c hc => by
 rcases List.mem_append.1 hc with h' | h'
 ·exact h c h'
 ·exact k c h'
theorem Lb.take (h : Lb L) (n : Nat) : Lb (L.take n) := fun c hc => h c (List.mem_of_mem_take hc)
theorem Lb.drop (h : Lb L) (n : Nat) : Lb (L.drop n) := fun c hc => h c (List.mem_of_mem_drop hc)
theorem Lb.rep (n : Nat) {c : Ce} (h : c.label = 0 ∨ c.label = 1) : Lb (List.replicate n c) := fun d hd => by rw [(List.mem_replicate.1 hd).2]; exact h
theorem Lb.brk (h : Lb L) (x : Int) : Lb (breakF L x) := fun c hc => by
 obtain ⟨k, hk⟩ := List.mem_iff_getElem?.1 hc
 rw [breakF_get] at hk
 obtain ⟨d, hd, rfl⟩ := Option.map_eq_some_iff.1 hk
 have := h d (List.mem_of_getElem? hd)
 split
 ·exact this
 ·exact this
theorem Lb.brk2 (h : Lb L) (x y : Int) : Lb (brk2 L x y) := (h.brk x).brk y
theorem Lb.put (c : Ce) (wide : Bool) (h : c.label = 0 ∨ c.label = 1) : Lb (putC c wide) := by
 unfold putC
 intro d hd
 split at hd
 ·rcases List.mem_cons.1 hd with rfl | hd
  ·exact h
  ·rw [List.mem_singleton.1 hd]; exact h
 ·rw [List.mem_singleton.1 hd]; exact h
theorem Lb.set (h : Lb L) (i : Nat) {c : Ce} (hc : c.label = 0 ∨ c.label = 1) : Lb (L.set i c) := fun d hd => by
 rcases List.mem_or_eq_of_mem_set hd with h' | h'
 ·exact h d h'
 ·rw [h']; exact hc
theorem Lb.markAt (h : Lb L) (i : Nat) (m l : Int) : Lb (markAt L i m l) := by
 unfold Run.markAt
 split
 ·exact h
 split
 ·exact h
 split
 ·split
  ·exact (h.set _ (by rw [marked_label]; exact joinF_01 _ _)).set _ (joinF_01 _ _)
  ·exact h.set _ (by rw [marked_label]; exact joinF_01 _ _)
 ·exact h.set _ (by rw [marked_label]; exact joinF_01 _ _)
def offC (l : Int) (c d : Ce) : Prop := c.label = d.label ∧ (c.label ≠ l → c = d)
theorem offC.rfl' (l : Int) (c : Ce) : offC l c c := ⟨rfl, fun _ => rfl⟩
theorem offC.trans {l : Int} {a b c : Ce} (h : offC l a b) (k : offC l b c) : offC l a c := ⟨h.1.trans k.1, fun e => (h.2 e).trans (k.2 (h.1 ▸ e))⟩
theorem brk_off (w : Wh L) {l : Int} {x : Int} (hx : ∀ c : Ce, (L[clampN x L.length]? = some c ∨ (∃ j, j + 1 = clampN x L.length ∧ L[j]? = some c)) → cutF L (clampN x L.length) = true → c.label = l) : Two (offC l) L (breakF L x) := by
 refine ⟨(breakF_len _ _).symm, fun k c d hc hd => ?_⟩
 rw [breakF_get, hc] at hd
 cases hd
 split
 ·rename_i h
  refine ⟨rfl, fun e => absurd (hx c ?_ h.1) e⟩
  rcases h.2 with h2 | h2
  ·exact .inr ⟨k, h2, hc⟩
  ·exact .inl (h2 ▸ hc)
 ·exact offC.rfl' l c
theorem put_off (w : Wh L) {i : Nat} {c : Ce} {wide : Bool} (hin : i + numC wide ≤ L.length) (hl : ∀ k d, L[k]? = some d → i ≤ k → k < i + numC wide → d.label = c.label) : Two (offC c.label) L (putF L i c wide) := by
 have hn : numC wide = 1 ∨ numC wide = 2 := by unfold numC; split <;> simp
 have hput : putF L i c wide = (brk2 L i (i + numC wide : Nat)).take i ++ putC c wide ++ (brk2 L i (i + numC wide : Nat)).drop (i + numC wide) := by
  unfold putF
  rw [putC_len, if_neg (by omega), Int.toNat_natCast, show ((i : Int) + (numC wide : Nat)) = ((i + numC wide : Nat) : Int) by omega, Int.toNat_natCast]
 have t := fun a b c' => @offC.trans c.label a b c'
 have h1 : Two (offC c.label) L (breakF L i) := brk_off w fun d hd hcut => by
  rw [clampN_nat (by omega)] at hd hcut
  obtain ⟨a, h0, ha, hk, hb⟩ := w.cut_half hcut
  have := hl i a.half hb (Nat.le_refl _) (by omega)
  rcases hd with hd | ⟨j, hj, hd⟩
  ·rw [hb] at hd; cases hd; exact this
  ·rw [show i - 1 = j by omega, hd] at ha; cases ha; exact this
 have w1 := w.brk i
 have h2 : Two (offC c.label) (breakF L i) (brk2 L i (i + numC wide : Nat)) := brk_off w1 fun d hd hcut => by
  rw [breakF_len, clampN_nat (by omega)] at hd hcut
  obtain ⟨a, h0, ha, hk, hb⟩ := w1.cut_half hcut
  obtain ⟨a', ha', r⟩ := (h1.symm (R := offC c.label) (L := L) (fun _ _ h => ⟨h.1.symm, fun e => (h.2 (fun e' => e (h.1 ▸ e'))).symm⟩)).get ha
  have := hl _ a' ha' (by omega) (by omega)
  rw [← r.1] at this
  rcases hd with hd | ⟨j, hj, hd⟩
  ·rw [hb] at hd; cases hd; exact this
  ·rw [show i + numC wide - 1 = j by omega, hd] at ha; cases ha; exact this
 have h12 := h1.trans t h2
 rw [hput]
 have hsplit : L = L.take i ++ (L.drop i).take (numC wide) ++ L.drop (i + numC wide) := by
  rw [List.append_assoc, ← List.drop_drop, List.take_append_drop, List.take_append_drop]
 conv => lhs; rw [hsplit]
 refine ((h12.take i).append ⟨?_, fun k x y hx hy => ?_⟩).append (h12.drop _)
 ·rw [List.length_take, List.length_drop, putC_len]; omega
 ·rw [List.getElem?_take] at hx
  split at hx
  ·rename_i hk
   rw [List.getElem?_drop] at hx
   have hxl := hl _ x hx (by omega) (by omega)
   have hyl : y.label = c.label := by
    have := List.mem_of_getElem? hy
    unfold putC at this
    split at this
    ·rcases List.mem_cons.1 this with rfl | h'
     ·rfl
     ·rw [List.mem_singleton.1 h']; rfl
    ·rw [List.mem_singleton.1 this]
   exact ⟨hxl.trans hyl.symm, fun e => absurd hxl e⟩
  ·cases hx
def Labs (A : List Lv) (r : List Ce) : Prop := r.length = A.length ∧ ∀ (i : Nat) (c : Ce) (a : Lv), r[i]? = some c → A[i]? = some a → c.label = a.n
theorem Labs.off {A : List Lv} {l : Int} {r s : List Ce} (h : Labs A r) (t : Two (offC l) r s) : Labs A s := by
 refine ⟨by rw [← t.len]; exact h.1, fun i c a hc ha => ?_⟩
 obtain ⟨d, hd, r'⟩ := (t.symm (R := offC l) (fun _ _ h => ⟨h.1.symm, fun e => (h.2 (fun e' => e (h.1 ▸ e'))).symm⟩)).get hc
 rw [r'.1]
 exact h.2 i d a hd ha
theorem wide_in {A : List Lv} {d : Dr} {i n : Nat} (hn : n = A.length) (hi : i < n) : i + numC (wideF A d i n) ≤ n ∧ ∀ k a b, A[k]? = some a → A[i]? = some b → i ≤ k → k < i + numC (wideF A d i n) → a.n = b.n := by
 by_cases hw : wideF A d i n = true
 ·rw [hw]
  unfold wideF at hw
  simp only [Bool.and_eq_true, decide_eq_true_eq] at hw
  obtain ⟨⟨_, h1⟩, h2⟩ := hw
  refine ⟨h1, fun k a b ha hb h3 h4 => ?_⟩
  have h4 : k < i + 2 := h4
  rcases (show k = i ∨ k = i + 1 by omega) with rfl | rfl
  ·rw [ha] at hb; cases hb; rfl
  ·rw [ha, hb] at h2
   exact of_decide_eq_true h2
 ·rw [show wideF A d i n = false by simpa using hw]
  refine ⟨hi, fun k a b ha hb h3 h4 => ?_⟩
  have h4 : k < i + 1 := h4
  rw [show k = i by omega, hb] at ha; cases ha; rfl
theorem fill_step {A : List Lv} {D O : List Dr} {r : List Ce} (w : Wh r) (hl : Labs A r) (i : Nat) : Wh (fillStep A D O r i) ∧ Labs A (fillStep A D O r i) ∧ ∀ a, A[i]? = some a → Two (offC a.n) r (fillStep A D O r i) := by
 unfold fillStep
 split
 ·rename_i a d c ha hp hc
  split
  ·exact ⟨w, hl, fun _ _ => Two.refl fun c _ => offC.rfl' _ c⟩
  ·have hi := (List.getElem?_eq_some_iff.1 hc).1
   obtain ⟨w1, w2⟩ := wide_in (A := A) (d := d) (i := i) (n := r.length) hl.1 hi
   have t : Two (offC a.n) r (putF r i { cellF d with label := a.n } (wideF A d i r.length)) := put_off (c := { cellF d with label := a.n }) w w1 fun k e he h1 h2 => by
    have hk : A[k]? = some (A[k]'(by have := (List.getElem?_eq_some_iff.1 he).1; have := hl.1; omega)) := List.getElem?_eq_getElem _
    rw [hl.2 k e _ he hk]
    exact w2 k _ a hk ha h1 h2
   exact ⟨w.putF _ _ _, hl.off t, fun a' ha' => by rw [ha] at ha'; cases ha'; exact t⟩
 ·exact ⟨w, hl, fun _ _ => Two.refl fun c _ => offC.rfl' _ c⟩
theorem base_ok (A : List Lv) : Wh (baseF A) ∧ Labs A (baseF A) := by
 refine ⟨.narrow fun c hc => ?_, by simp [baseF], fun i c a hc ha => ?_⟩
 ·obtain ⟨a, _, rfl⟩ := List.mem_map.1 hc
  rfl
 ·rw [baseF, List.getElem?_map, ha] at hc
  cases hc; rfl
theorem fills_ok (A : List Lv) (D O : List Dr) (l : List Nat) : ∀ r : List Ce, Wh r → Labs A r → Wh (l.foldl (fillStep A D O) r) ∧ Labs A (l.foldl (fillStep A D O) r) := by
 induction l with
 | nil => intro r w h; exact ⟨w, h⟩
 | cons i l ih =>
  intro r w h
  rw [List.foldl_cons]
  obtain ⟨h1, h2, _⟩ := fill_step (D := D) (O := O) w h i
  exact ih _ h1 h2
theorem filled_ok (A : List Lv) (D O : List Dr) : Wh (filledF A D O) ∧ Labs A (filledF A D O) := by
 unfold filledF
 obtain ⟨h1, h2⟩ := base_ok A
 split
 ·exact ⟨h1, h2⟩
 ·exact fills_ok A D O _ _ h1 h2
theorem labelsF_01 (n : Nat) (D : List Dr) : ∀ a ∈ labelsF n D, a.n = 0 ∨ a.n = 1 := by
 intro a ha
 obtain ⟨i, _, rfl⟩ := List.mem_map.1 ha
 show labF D i = 0 ∨ labF D i = 1
 unfold labF
 split
 ·split
  ·exact .inr rfl
  ·exact .inl rfl
 ·exact .inl rfl
theorem row_ok (c : Int) (D O : List Dr) : Wh (rowF c D O) ∧ Lb (rowF c D O) := by
 obtain ⟨h1, h2⟩ := filled_ok (labelsF (c % 31).toNat D) D O
 refine ⟨h1, fun e he => ?_⟩
 obtain ⟨k, hk⟩ := List.mem_iff_getElem?.1 he
 have hA : (labelsF (c % 31).toNat D)[k]? = some ((labelsF (c % 31).toNat D)[k]'(by have := (List.getElem?_eq_some_iff.1 hk).1; have := h2.1; unfold rowF at *; omega)) := List.getElem?_eq_getElem _
 rw [h2.2 k e _ hk hA]
 exact labelsF_01 _ _ _ (List.mem_of_getElem? hA)
end
end Go.Proofs.Ytifemfnjoobiiaa.Run
