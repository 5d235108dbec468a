/- Rows of cells that look alike to Low, in plain words: they do so again behind the same acts; rows that are drawn are whole, and look alike. No program is spoken of. -/
import Derived.Test.YtkelbhcaecojkaaRowP
namespace Go.Proofs.Ytkelbhcaecojkaa.Run
open Go Go.RowKit
set_option linter.unusedVariables false
set_option linter.unusedSimpArgs false

def lowC (c d : Ce) : Prop := c.label = d.label ∧ (c.label = 0 → c = d)
theorem lowC.rfl' (c : Ce) : lowC c c := ⟨rfl, fun _ => rfl⟩
theorem lowC.symm {c d : Ce} (h : lowC c d) : lowC d c := ⟨h.1.symm, fun e => (h.2 (h.1.trans e)).symm⟩
theorem lowC.trans {a b c : Ce} (h : lowC a b) (k : lowC b c) : lowC a c := ⟨h.1.trans k.1, fun e => (h.2 e).trans (k.2 (h.1 ▸ e))⟩
def Lb (L : List Ce) : Prop := ∀ c ∈ L, c.label = 0 ∨ c.label = 1
abbrev Low (L K : List Ce) : Prop := Two lowC L K
theorem Low.refl (L : List Ce) : Low L L := Two.refl fun c _ => lowC.rfl' c

section
variable {L K : List Ce}
theorem cut_low (w : Wh L) (h : Low L K) {j k : Nat} {c : Ce} (hc : cutF L j = true) (hk : k + 1 = j ∨ k = j) (hL : L[k]? = some c) (h0 : c.label = 0) : cutF K j = true := by
  obtain ⟨a, h1, ha, hk1, hb⟩ := w.cut_half hc
  have hal : a.label = 0 := by
    rcases hk with hk | hk
    · rw [show j - 1 = k by omega, hL] at ha; cases ha; exact h0
    · rw [hk, hb] at hL; cases hL; exact h0
  obtain ⟨x, hx, rx⟩ := h.get ha
  obtain ⟨y, hy, ry⟩ := h.get hb
  have e1 := rx.2 hal
  have e2 := ry.2 hal
  subst e1; subst e2
  exact cutF_iff.2 ⟨a, a.half, h1, hx, hy, hk1, rfl⟩
theorem bare_label (c : Ce) : c.bare.label = c.label := rfl
theorem low_brk (w : Wh L) (u : Wh K) (h : Low L K) (x : Int) : Low (breakF L x) (breakF K x) := by
  refine ⟨by rw [breakF_len, breakF_len, h.len], fun k c d hc hd => ?_⟩
  rw [breakF_get] at hc hd
  obtain ⟨c0, hc0, rfl⟩ := Option.map_eq_some_iff.1 hc
  obtain ⟨d0, hd0, rfl⟩ := Option.map_eq_some_iff.1 hd
  rw [← h.len]
  have r := h.at' k c0 d0 hc0 hd0
  have hs : Low K L := h.symm fun _ _ h => h.symm
  have hlab : ∀ (p : Prop) [Decidable p] (c : Ce), (if p then c.bare else c).label = c.label := fun p _ c => by split <;> rfl
  refine ⟨by rw [hlab, hlab]; exact r.1, fun e0 => ?_⟩
  rw [hlab] at e0
  have he := r.2 e0
  subst he
  by_cases hq : k + 1 = clampN x L.length ∨ k = clampN x L.length
  · have : cutF L (clampN x L.length) = true ↔ cutF K (clampN x L.length) = true := ⟨fun hc => cut_low w h hc hq hc0 e0, fun hc => cut_low u hs hc hq hd0 e0⟩
    simp only [this]
  · rw [if_neg (fun h => hq h.2), if_neg (fun h => hq h.2)]
theorem low_brk2 (w : Wh L) (u : Wh K) (h : Low L K) (x y : Int) : Low (brk2 L x y) (brk2 K x y) := low_brk (w.brk x) (u.brk x) (low_brk w u h x) y
theorem low_insert (w : Wh L) (u : Wh K) (h : Low L K) (x n : Int) (c : Ce) : Low (insertF L x n c) (insertF K x n c) := by
  unfold insertF
  rw [← h.len]
  have hB := low_brk2 w u h (clampN x L.length : Nat) (L.length - clampN n (L.length - clampN x L.length) : Nat)
  exact ((hB.take _).append (Low.refl _)).append ((hB.take _).drop _)
theorem low_delete (w : Wh L) (u : Wh K) (h : Low L K) (x n : Int) (c : Ce) : Low (deleteF L x n c) (deleteF K x n c) := by
  unfold deleteF
  rw [← h.len]
  have hB := low_brk2 w u h (clampN x L.length : Nat) (clampN x L.length + clampN n (L.length - clampN x L.length) : Nat)
  exact ((hB.take _).append (hB.drop _)).append (Low.refl _)
theorem low_erase (w : Wh L) (u : Wh K) (h : Low L K) (x y : Int) (c : Ce) : Low (eraseF L x y c) (eraseF K x y c) := by
  unfold eraseF
  rw [← h.len]
  have hB := low_brk2 w u h (clampN x L.length : Nat) (clampN y L.length : Nat)
  split
  · exact h
  · exact ((hB.take _).append (Low.refl _)).append (hB.drop _)
theorem low_resize (w : Wh L) (u : Wh K) (h : Low L K) (n : Nat) (c : Ce) : Low (resizeF L n c) (resizeF K n c) := by
  unfold resizeF
  rw [← h.len]
  exact ((low_brk w u h n).take _).append (Low.refl _)
theorem low_put (w : Wh L) (u : Wh K) (h : Low L K) (x : Int) (c : Ce) (wide : Bool) : Low (putF L x c wide) (putF K x c wide) := by
  unfold putF
  rw [← h.len]
  split
  · exact h
  · have hB := low_brk2 w u h x (x + (putC c wide).length)
    exact ((hB.take _).append (Low.refl _)).append (hB.drop _)
theorem joinF_01 (x y : Int) : joinF x y = 0 ∨ joinF x y = 1 := by unfold joinF; split <;> simp
theorem joinF_0 {x y : Int} (h : joinF x y = 0) : x ≤ 0 ∧ y ≤ 0 := by unfold joinF at h; split at h <;> omega
theorem joinF_1 (y : Int) : joinF 1 y = 1 := by unfold joinF; rw [if_pos (.inl (by omega))]
theorem low_raise (lb : Lb L) (h : Low L K) (l : Int) : Low (L.map (Ce.raise l)) (K.map (Ce.raise l)) := by
  refine h.map fun c d hc hd r => ⟨?_, fun e => ?_⟩
  · show joinF c.label l = joinF d.label l
    rw [r.1]
  · have h1 : c.label ≤ 0 := (joinF_0 e).1
    have h2 := r.2 (by rcases lb c hc with h | h <;> omega)
    rw [h2]
theorem marked_label (c : Ce) (m l : Int) : (c.marked m l).label = joinF c.label l := by
  have := (Ce.mark_kind c m).2.1
  show joinF (c.mark m).label l = _
  rw [this]
theorem markAt_high (w : Wh L) {i : Nat} {c : Ce} (hc : L[i]? = some c) (h1 : c.label = 1) (m l : Int) : Low L (markAt L i m l) := by
  unfold markAt
  rw [hc]
  simp only
  have r1 : lowC c (c.marked m l) := ⟨by rw [marked_label, h1, joinF_1], fun e => by omega⟩
  have s1 : Low L (L.set i (c.marked m l)) := by
    have := (Low.refl L).set i r1
    have e : L.set i c = L := by
      obtain ⟨_, rfl⟩ := List.getElem?_eq_some_iff.1 hc
      exact List.set_getElem_self _
    rwa [e] at this
  split
  · exact Low.refl L
  split
  · rename_i hk
    have hn := w.left i c hc hk
    rw [hn]
    simp only
    have r2 : lowC c.half (c.half.raise l) := ⟨by show c.label = joinF c.label l; rw [h1, joinF_1], fun e => by have : c.label = 0 := e; omega⟩
    have := s1.set (i + 1) r2
    have e : L.set (i + 1) c.half = L := by
      obtain ⟨_, h⟩ := List.getElem?_eq_some_iff.1 hn
      rw [← h]
      exact List.set_getElem_self _
    rwa [e] at this
  · exact s1
theorem mark_high (w : Wh L) {x : Int} {c : Ce} (hc : L[x.toNat]? = some c) (h1 : c.label = 1) (m l : Int) : Low L (markF L x m l) := by
  unfold markF
  split
  · exact Low.refl L
  rw [hc]
  simp only
  split
  · rename_i h
    obtain ⟨j, d, hj, hd, k1, rfl⟩ := w.right _ c hc h.1
    exact markAt_high (c := d) w (by rw [show x.toNat - 1 = j by omega]; exact hd) h1 m l
  · exact markAt_high w hc h1 m l
theorem low_markAt (w : Wh L) (u : Wh K) (h : Low L K) {i : Nat} {c : Ce} (hc : L[i]? = some c) (hd : K[i]? = some c) (h0 : c.label = 0) (m l : Int) : Low (markAt L i m l) (markAt K i m l) := by
  unfold markAt
  rw [hc, hd]
  simp only
  split
  · exact h
  have s1 := h.set i (lowC.rfl' (c.marked m l))
  split
  · rename_i hk
    have h1 := w.left i c hc hk
    have h2 := u.left i c hd hk
    rw [h1, h2]
    exact s1.set (i + 1) (lowC.rfl' _)
  · exact s1
theorem low_mark (w : Wh L) (u : Wh K) (lb : Lb L) (h : Low L K) (x m l : Int) : Low (markF L x m l) (markF K x m l) := by
  by_cases hx : x < 0 ∨ x ≥ L.length
  · unfold markF
    rw [← h.len, if_pos hx, if_pos hx]; exact h
  obtain ⟨c, hc⟩ : ∃ c, L[x.toNat]? = some c := ⟨_, List.getElem?_eq_getElem (by omega)⟩
  obtain ⟨d, hd, r⟩ := h.get hc
  rcases lb c (List.mem_of_getElem? hc) with h0 | h1
  · have he := r.2 h0
    subst he
    unfold markF
    rw [← h.len, if_neg hx, if_neg hx, hc, hd]
    simp only
    split
    · rename_i hk
      obtain ⟨j, e, hj, he, k1, rfl⟩ := w.right _ c hc hk.1
      obtain ⟨e', he', r'⟩ := h.get he
      have := r'.2 h0
      subst this
      exact low_markAt (c := e) w u h (by rw [show x.toNat - 1 = j by omega]; exact he) (by rw [show x.toNat - 1 = j by omega]; exact he') h0 m l
    · exact low_markAt w u h hc hd h0 m l
  · have t := fun a b c => @lowC.trans a b c
    have hs : Low K (markF K x m l) := mark_high u hd (by rw [← r.1]; exact h1) m l
    have hl : Low (markF L x m l) L := (mark_high w hc h1 m l).symm fun _ _ h => h.symm
    exact (hl.trans t h).trans t hs
/-! ### Labels are Low or High -/

theorem Lb.append {A B : List Ce} (h : Lb A) (k : Lb B) : Lb (A ++ B) := fun c hc => by
  rcases List.mem_append.1 hc with h' | h'
  · exact h c h'
  · exact k c h'
theorem Lb.take (h : Lb L) (n : Nat) : Lb (L.take n) := fun c hc => h c (List.mem_of_mem_take hc)
theorem Lb.drop (h : Lb L) (n : Nat) : Lb (L.drop n) := fun c hc => h c (List.mem_of_mem_drop hc)
theorem Lb.rep (n : Nat) {c : Ce} (h : c.label = 0 ∨ c.label = 1) : Lb (List.replicate n c) := fun d hd => by rw [(List.mem_replicate.1 hd).2]; exact h
theorem Lb.brk (h : Lb L) (x : Int) : Lb (breakF L x) := fun c hc => by
  obtain ⟨k, hk⟩ := List.mem_iff_getElem?.1 hc
  rw [breakF_get] at hk
  obtain ⟨d, hd, rfl⟩ := Option.map_eq_some_iff.1 hk
  have := h d (List.mem_of_getElem? hd)
  split
  · exact this
  · exact this
theorem Lb.brk2 (h : Lb L) (x y : Int) : Lb (brk2 L x y) := (h.brk x).brk y
theorem Lb.put (c : Ce) (wide : Bool) (h : c.label = 0 ∨ c.label = 1) : Lb (putC c wide) := by
  unfold putC
  intro d hd
  split at hd
  · rcases List.mem_cons.1 hd with rfl | hd
    · exact h
    · rw [List.mem_singleton.1 hd]; exact h
  · rw [List.mem_singleton.1 hd]; exact h
theorem Lb.set (h : Lb L) (i : Nat) {c : Ce} (hc : c.label = 0 ∨ c.label = 1) : Lb (L.set i c) := fun d hd => by
  rcases List.mem_or_eq_of_mem_set hd with h' | h'
  · exact h d h'
  · rw [h']; exact hc
theorem Lb.markAt (h : Lb L) (i : Nat) (m l : Int) : Lb (markAt L i m l) := by
  unfold Run.markAt
  split
  · exact h
  split
  · exact h
  split
  · split
    · exact (h.set _ (by rw [marked_label]; exact joinF_01 _ _)).set _ (joinF_01 _ _)
    · exact h.set _ (by rw [marked_label]; exact joinF_01 _ _)
  · exact h.set _ (by rw [marked_label]; exact joinF_01 _ _)
theorem cellF_label (d : Dr) : (cellF d).label = 0 ∨ (cellF d).label = 1 := by
  show (if d.high then (1 : Int) else 0) = 0 ∨ (if d.high then (1 : Int) else 0) = 1
  split
  · exact .inr rfl
  · exact .inl rfl
/-! ### Rows that are drawn -/

/-- labels are the same, and what is not labelled l is the same -/
def offC (l : Int) (c d : Ce) : Prop := c.label = d.label ∧ (c.label ≠ l → c = d)
theorem offC.rfl' (l : Int) (c : Ce) : offC l c c := ⟨rfl, fun _ => rfl⟩
theorem offC.trans {l : Int} {a b c : Ce} (h : offC l a b) (k : offC l b c) : offC l a c := ⟨h.1.trans k.1, fun e => (h.2 e).trans (k.2 (h.1 ▸ e))⟩
theorem brk_off (w : Wh L) {l : Int} {x : Int} (hx : ∀ c : Ce, (L[clampN x L.length]? = some c ∨ (∃ j, j + 1 = clampN x L.length ∧ L[j]? = some c)) → cutF L (clampN x L.length) = true → c.label = l) : Two (offC l) L (breakF L x) := by
  refine ⟨(breakF_len _ _).symm, fun k c d hc hd => ?_⟩
  rw [breakF_get, hc] at hd
  cases hd
  split
  · rename_i h
    refine ⟨rfl, fun e => absurd (hx c ?_ h.1) e⟩
    rcases h.2 with h2 | h2
    · exact .inr ⟨k, h2, hc⟩
    · exact .inl (h2 ▸ hc)
  · exact offC.rfl' l c
theorem put_off (w : Wh L) {i : Nat} {c : Ce} {wide : Bool} (hin : i + numC wide ≤ L.length) (hl : ∀ k d, L[k]? = some d → i ≤ k → k < i + numC wide → d.label = c.label) : Two (offC c.label) L (putF L i c wide) := by
  have hn : numC wide = 1 ∨ numC wide = 2 := by unfold numC; split <;> simp
  have hput : putF L i c wide = (brk2 L i (i + numC wide : Nat)).take i ++ putC c wide ++ (brk2 L i (i + numC wide : Nat)).drop (i + numC wide) := by
    unfold putF
    rw [putC_len, if_neg (by omega), Int.toNat_natCast, show ((i : Int) + (numC wide : Nat)) = ((i + numC wide : Nat) : Int) by omega, Int.toNat_natCast]
  have t := fun a b c' => @offC.trans c.label a b c'
  have h1 : Two (offC c.label) L (breakF L i) := brk_off w fun d hd hcut => by
    rw [clampN_nat (by omega)] at hd hcut
    obtain ⟨a, h0, ha, hk, hb⟩ := w.cut_half hcut
    have := hl i a.half hb (Nat.le_refl _) (by omega)
    rcases hd with hd | ⟨j, hj, hd⟩
    · rw [hb] at hd; cases hd; exact this
    · rw [show i - 1 = j by omega, hd] at ha; cases ha; exact this
  have w1 := w.brk i
  have h2 : Two (offC c.label) (breakF L i) (brk2 L i (i + numC wide : Nat)) := brk_off w1 fun d hd hcut => by
    rw [breakF_len, clampN_nat (by omega)] at hd hcut
    obtain ⟨a, h0, ha, hk, hb⟩ := w1.cut_half hcut
    obtain ⟨a', ha', r⟩ := (h1.symm (R := offC c.label) (L := L) (fun _ _ h => ⟨h.1.symm, fun e => (h.2 (fun e' => e (h.1 ▸ e'))).symm⟩)).get ha
    have := hl _ a' ha' (by omega) (by omega)
    rw [← r.1] at this
    rcases hd with hd | ⟨j, hj, hd⟩
    · rw [hb] at hd; cases hd; exact this
    · rw [show i + numC wide - 1 = j by omega, hd] at ha; cases ha; exact this
  have h12 := h1.trans t h2
  rw [hput]
  have hsplit : L = L.take i ++ (L.drop i).take (numC wide) ++ L.drop (i + numC wide) := by
    rw [List.append_assoc, ← List.drop_drop, List.take_append_drop, List.take_append_drop]
  conv => lhs; rw [hsplit]
  refine ((h12.take i).append ⟨?_, fun k x y hx hy => ?_⟩).append (h12.drop _)
  · rw [List.length_take, List.length_drop, putC_len]; omega
  · rw [List.getElem?_take] at hx
    split at hx
    · rename_i hk
      rw [List.getElem?_drop] at hx
      have hxl := hl _ x hx (by omega) (by omega)
      have hyl : y.label = c.label := by
        have := List.mem_of_getElem? hy
        unfold putC at this
        split at this
        · rcases List.mem_cons.1 this with rfl | h'
          · rfl
          · rw [List.mem_singleton.1 h']; rfl
        · rw [List.mem_singleton.1 this]
      exact ⟨hxl.trans hyl.symm, fun e => absurd hxl e⟩
    · cases hx

/-- the labels of a row -/
def Labs (A : List Lv) (r : List Ce) : Prop := r.length = A.length ∧ ∀ (i : Nat) (c : Ce) (a : Lv), r[i]? = some c → A[i]? = some a → c.label = a.n
theorem Labs.off {A : List Lv} {l : Int} {r s : List Ce} (h : Labs A r) (t : Two (offC l) r s) : Labs A s := by
  refine ⟨by rw [← t.len]; exact h.1, fun i c a hc ha => ?_⟩
  obtain ⟨d, hd, r'⟩ := (t.symm (R := offC l) (fun _ _ h => ⟨h.1.symm, fun e => (h.2 (fun e' => e (h.1 ▸ e'))).symm⟩)).get hc
  rw [r'.1]
  exact h.2 i d a hd ha

theorem wide_in {A : List Lv} {d : Dr} {i n : Nat} (hn : n = A.length) (hi : i < n) : i + numC (wideF A d i n) ≤ n ∧ ∀ k a b, A[k]? = some a → A[i]? = some b → i ≤ k → k < i + numC (wideF A d i n) → a.n = b.n := by
  by_cases hw : wideF A d i n = true
  · rw [hw]
    unfold wideF at hw
    simp only [Bool.and_eq_true, decide_eq_true_eq] at hw
    obtain ⟨⟨_, h1⟩, h2⟩ := hw
    refine ⟨h1, fun k a b ha hb h3 h4 => ?_⟩
    have h4 : k < i + 2 := h4
    rcases (show k = i ∨ k = i + 1 by omega) with rfl | rfl
    · rw [ha] at hb; cases hb; rfl
    · rw [ha, hb] at h2
      exact of_decide_eq_true h2
  · rw [show wideF A d i n = false by simpa using hw]
    refine ⟨hi, fun k a b ha hb h3 h4 => ?_⟩
    have h4 : k < i + 1 := h4
    rw [show k = i by omega, hb] at ha; cases ha; rfl

theorem fill_step {A : List Lv} {D O : List Dr} {r : List Ce} (w : Wh r) (hl : Labs A r) (i : Nat) : Wh (fillStep A D O r i) ∧ Labs A (fillStep A D O r i) ∧ ∀ a, A[i]? = some a → Two (offC a.n) r (fillStep A D O r i) := by
  unfold fillStep
  split
  · rename_i a d c ha hp hc
    split
    · exact ⟨w, hl, fun _ _ => Two.refl fun c _ => offC.rfl' _ c⟩
    · have hi := (List.getElem?_eq_some_iff.1 hc).1
      obtain ⟨w1, w2⟩ := wide_in (A := A) (d := d) (i := i) (n := r.length) hl.1 hi
      have t : Two (offC a.n) r (putF r i { cellF d with label := a.n } (wideF A d i r.length)) := put_off (c := { cellF d with label := a.n }) w w1 fun k e he h1 h2 => by
        have hk : A[k]? = some (A[k]'(by have := (List.getElem?_eq_some_iff.1 he).1; have := hl.1; omega)) := List.getElem?_eq_getElem _
        rw [hl.2 k e _ he hk]
        exact w2 k _ a hk ha h1 h2
      exact ⟨w.putF _ _ _, hl.off t, fun a' ha' => by rw [ha] at ha'; cases ha'; exact t⟩
  · exact ⟨w, hl, fun _ _ => Two.refl fun c _ => offC.rfl' _ c⟩

theorem base_ok (A : List Lv) : Wh (baseF A) ∧ Labs A (baseF A) := by
  refine ⟨.narrow fun c hc => ?_, by simp [baseF], fun i c a hc ha => ?_⟩
  · obtain ⟨a, _, rfl⟩ := List.mem_map.1 hc
    rfl
  · rw [baseF, List.getElem?_map, ha] at hc
    cases hc; rfl
theorem fills_ok (A : List Lv) (D O : List Dr) (l : List Nat) : ∀ r : List Ce, Wh r → Labs A r → Wh (l.foldl (fillStep A D O) r) ∧ Labs A (l.foldl (fillStep A D O) r) := by
  induction l with
  | nil => intro r w h; exact ⟨w, h⟩
  | cons i l ih =>
    intro r w h
    rw [List.foldl_cons]
    obtain ⟨h1, h2, _⟩ := fill_step (D := D) (O := O) w h i
    exact ih _ h1 h2
theorem filled_ok (A : List Lv) (D O : List Dr) : Wh (filledF A D O) ∧ Labs A (filledF A D O) := by
  unfold filledF
  obtain ⟨h1, h2⟩ := base_ok A
  split
  · exact ⟨h1, h2⟩
  · exact fills_ok A D O _ _ h1 h2

theorem fill_low {A : List Lv} (lbA : ∀ a ∈ A, a.n = 0 ∨ a.n = 1) {D O : List Dr} {r s : List Ce} (w : Wh r) (hl : Labs A r) (u : Wh s) (hs : Labs A s) (h : Low r s) (i : Nat) : Low (fillStep A D [] r i) (fillStep A D O s i) := by
  cases ha : A[i]? with
  | none => unfold fillStep; rw [ha]; exact h
  | some a =>
    rcases lbA a (List.mem_of_getElem? ha) with h0 | h1
    · have hp1 : pickF A D [] i = D[i % D.length]? := by unfold pickF; rw [ha]; simp only; rw [if_neg (by omega)]
      have hp2 : pickF A D O i = D[i % D.length]? := by unfold pickF; rw [ha]; simp only; rw [if_neg (by omega)]
      unfold fillStep
      rw [ha, hp1, hp2]
      cases hd : D[i % D.length]? with
      | none => exact h
      | some d =>
        cases hc : r[i]? with
        | none =>
          have : s[i]? = none := by rw [List.getElem?_eq_none_iff] at hc ⊢; rw [← h.len]; exact hc
          rw [this]; exact h
        | some c =>
          obtain ⟨e, he, re⟩ := h.get hc
          have hce := re.2 (by rw [hl.2 i c a hc ha]; exact h0)
          subst hce
          rw [he]
          simp only
          rw [← h.len]
          split
          · exact h
          · exact low_put w u h _ _ _
    · have t := fun a b c => @lowC.trans a b c
      have c1 : ∀ {c d : Ce}, offC a.n c d → lowC c d := fun {c d} h => ⟨h.1, fun e => h.2 (by omega)⟩
      have t1 := (fill_step (D := D) (O := []) w hl i).2.2 a ha
      have t2 := (fill_step (D := D) (O := O) u hs i).2.2 a ha
      have l1 : Low r (fillStep A D [] r i) := ⟨t1.len, fun k c d hc hd => c1 (t1.at' k c d hc hd)⟩
      have l2 : Low s (fillStep A D O s i) := ⟨t2.len, fun k c d hc hd => c1 (t2.at' k c d hc hd)⟩
      exact ((l1.symm fun _ _ h => h.symm).trans t h).trans t l2
theorem fills_low {A : List Lv} (lbA : ∀ a ∈ A, a.n = 0 ∨ a.n = 1) {D O : List Dr} (l : List Nat) : ∀ {r s : List Ce}, Wh r → Labs A r → Wh s → Labs A s → Low r s → Low (l.foldl (fillStep A D []) r) (l.foldl (fillStep A D O) s) := by
  induction l with
  | nil => intro r s _ _ _ _ h; exact h
  | cons i l ih =>
    intro r s w hl u hs h
    rw [List.foldl_cons, List.foldl_cons]
    obtain ⟨a1, a2, _⟩ := fill_step (D := D) (O := []) w hl i
    obtain ⟨b1, b2, _⟩ := fill_step (D := D) (O := O) u hs i
    exact ih a1 a2 b1 b2 (fill_low lbA w hl u hs h i)
theorem labelsF_01 (n : Nat) (D : List Dr) : ∀ a ∈ labelsF n D, a.n = 0 ∨ a.n = 1 := by
  intro a ha
  obtain ⟨i, _, rfl⟩ := List.mem_map.1 ha
  show labF D i = 0 ∨ labF D i = 1
  unfold labF
  split
  · split
    · exact .inr rfl
    · exact .inl rfl
  · exact .inl rfl
theorem row_low (c : Int) (D O : List Dr) : Low (rowF c D []) (rowF c D O) := by
  unfold rowF filledF
  obtain ⟨h1, h2⟩ := base_ok (labelsF (c % 31).toNat D)
  split
  · exact Low.refl _
  · exact fills_low (labelsF_01 _ _) _ h1 h2 h1 h2 (Low.refl _)
theorem row_ok (c : Int) (D O : List Dr) : Wh (rowF c D O) ∧ Lb (rowF c D O) := by
  obtain ⟨h1, h2⟩ := filled_ok (labelsF (c % 31).toNat D) D O
  refine ⟨h1, fun e he => ?_⟩
  obtain ⟨k, hk⟩ := List.mem_iff_getElem?.1 he
  have hA : (labelsF (c % 31).toNat D)[k]? = some ((labelsF (c % 31).toNat D)[k]'(by have := (List.getElem?_eq_some_iff.1 hk).1; have := h2.1; unfold rowF at *; omega)) := List.getElem?_eq_getElem _
  rw [h2.2 k e _ hk hA]
  exact labelsF_01 _ _ _ (List.mem_of_getElem? hA)
end
end Go.Proofs.Ytkelbhcaecojkaa.Run
