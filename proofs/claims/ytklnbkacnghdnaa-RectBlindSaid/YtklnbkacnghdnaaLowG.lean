/- Grids that look alike to Low look so again behind the same acts; so do sums of what is Low. -/
import Derived.Test.YtklnbkacnghdnaaOther
import Derived.Test.YtklnbkacnghdnaaSum
namespace Go.Proofs.Ytklnbkacnghdnaa.Run
open Go Go.RowKit
set_option linter.unusedVariables false
set_option linter.unusedSimpArgs false

def WhG (G : Gd) : Prop := ∀ L ∈ G, Wh L
def LbG (G : Gd) : Prop := ∀ L ∈ G, Lb L

theorem cut_take {L : List Ce} {n j : Nat} (h : cutF (L.take n) j = true) : cutF L j = true := by
  obtain ⟨a, b, h0, h1, h2, h3, h4⟩ := cutF_iff.1 h
  refine cutF_iff.2 ⟨a, b, h0, ?_, ?_, h3, h4⟩
  · rw [List.getElem?_take] at h1; split at h1
    · exact h1
    · cases h1
  · rw [List.getElem?_take] at h2; split at h2
    · exact h2
    · cases h2
section
variable {S L S' L' : List Ce} {f m : Rc} {C : Nat}
/-- where a copy comes from and to -/
structure Fits (f m : Rc) (C : Nat) : Prop where
  fl : 0 ≤ f.l
  ml : 0 ≤ m.l
  mc : 0 ≤ m.c
  le : m.c ≤ f.c
  fe : f.l + f.c ≤ C
  me : m.l + m.c ≤ C
theorem clampN_of {x : Int} {n : Nat} (h0 : 0 ≤ x) (h : x ≤ n) : clampN x n = x.toNat := by unfold clampN; omega
theorem copyRow_wh (h : Fits f m C) (hS : S.length = C) (hL : L.length = C) (w : Wh S) (u : Wh L) : Wh (copyRow S L f m) := by
  have h1 := h.fl; have h2 := h.ml; have h3 := h.mc; have h4 := h.le; have h5 := h.fe; have h6 := h.me
  have wB := u.brk2 m.l (m.l + m.c)
  have hB : ∀ j, cutF (Run.brk2 L m.l (m.l + m.c)) j = true → j ≠ m.l.toNat ∧ j ≠ m.l.toNat + m.c.toNat := fun j hj => by
    have := brk2_cut _ _ _ hj
    rw [clampN_of h2 (by omega), clampN_of (by omega) (by omega)] at this
    exact ⟨this.1, fun e => this.2 (by omega)⟩
  have wT := (w.brk2 f.l (f.l + m.c)).brk (f.l + f.c)
  have hT : ∀ j, cutF (breakF (Run.brk2 S f.l (f.l + m.c)) (f.l + f.c)) j = true → j ≠ f.l.toNat ∧ j ≠ (f.l + m.c).toNat := fun j hj => by
    have := brk2_cut _ _ _ (breakF_cut _ _ hj).1
    rw [clampN_of h1 (by omega), clampN_of (by omega) (by omega)] at this
    exact this
  unfold copyRow
  exact ((wB.take fun hc => (hB _ hc).1 rfl).append ((wT.take fun hc => (hT _ hc).2 rfl).drop fun hc => (hT _ (cut_take hc)).1 rfl)).append (wB.drop fun hc => (hB _ hc).2 rfl)
theorem copyRow_lb (lS : Lb S) (lL : Lb L) : Lb (copyRow S L f m) := by
  unfold copyRow
  exact (((lL.brk2 _ _).take _).append ((((lS.brk2 _ _).brk _).take _).drop _)).append ((lL.brk2 _ _).drop _)
theorem copyRow_low (wS : Wh S) (wS' : Wh S') (wL : Wh L) (wL' : Wh L') (hS : Low S S') (hL : Low L L') : Low (copyRow S L f m) (copyRow S' L' f m) := by
  unfold copyRow
  have hB := low_brk2 wL wL' hL m.l (m.l + m.c)
  have hT := low_brk (wS.brk2 f.l (f.l + m.c)) (wS'.brk2 f.l (f.l + m.c)) (low_brk2 wS wS' hS f.l (f.l + m.c)) (f.l + f.c)
  exact ((hB.take _).append ((hT.take _).drop _)).append (hB.drop _)
end
theorem erase_lb {L : List Ce} (h : Lb L) (x y : Int) {c : Ce} (hc : c.label = 0 ∨ c.label = 1) : Lb (eraseF L x y c) := by
  unfold eraseF
  split
  · exact h
  · exact (((h.brk2 _ _).take _).append (.rep _ hc)).append ((h.brk2 _ _).drop _)

/-! ### Grids -/

section
variable {A B : Gd} {C : Nat}
theorem getD_mem {G : Gd} {i : Nat} (h : i < G.length) : G.getD i [] ∈ G := by
  obtain ⟨L, hL⟩ : ∃ L, G[i]? = some L := ⟨_, List.getElem?_eq_getElem h⟩
  rw [getD_some hL]; exact List.mem_of_getElem? hL
theorem LowG.getD (h : LowG A B) (i : Nat) : Low (A.getD i []) (B.getD i []) := by
  by_cases hi : i < A.length
  · obtain ⟨L, hL⟩ : ∃ L, A[i]? = some L := ⟨_, List.getElem?_eq_getElem hi⟩
    obtain ⟨K, hK, r⟩ := h.get hL
    rw [getD_some hL, getD_some hK]; exact r
  · rw [List.getD_eq_getElem?_getD, List.getD_eq_getElem?_getD, List.getElem?_eq_none (by omega), List.getElem?_eq_none (by have := h.len; omega)]
    exact Low.refl _
theorem changed_all {p : List Ce → Prop} {t n : Int} {F : Nat → List Ce} (h : ∀ L ∈ A, p L) (hF : ∀ i, i < A.length → t ≤ i → (i : Int) < t + n → p (F i)) : ∀ L ∈ changedF A t n F, p L := by
  intro L hL
  obtain ⟨i, hi⟩ := List.mem_iff_getElem?.1 hL
  rw [changedF_get] at hi
  obtain ⟨K, hK, rfl⟩ := Option.map_eq_some_iff.1 hi
  split
  · rename_i hh
    exact hF i (List.getElem?_eq_some_iff.1 hK).1 hh.1 hh.2
  · exact h K (List.mem_of_getElem? hK)
theorem changed_low {t n : Int} {F F' : Nat → List Ce} (h : LowG A B) (hF : ∀ i, i < A.length → t ≤ i → (i : Int) < t + n → Low (F i) (F' i)) : LowG (changedF A t n F) (changedF B t n F') := by
  refine ⟨by rw [changedF_len, changedF_len]; exact h.len, fun i L K hL hK => ?_⟩
  rw [changedF_get] at hL hK
  obtain ⟨L', hL', rfl⟩ := Option.map_eq_some_iff.1 hL
  obtain ⟨K', hK', rfl⟩ := Option.map_eq_some_iff.1 hK
  split
  · rename_i hh
    exact hF i (List.getElem?_eq_some_iff.1 hL').1 hh.1 hh.2
  · exact h.row i L' K' hL' hK'
theorem erase_ok (w : WhG A) (lb : LbG A) (r : Rc) {c : Ce} (hc : c.label = 0 ∨ c.label = 1) : WhG (eraseG A r c) ∧ LbG (eraseG A r c) :=
  ⟨changed_all w fun i hi _ _ => (w _ (getD_mem hi)).erase _ _ rfl, changed_all lb fun i hi _ _ => erase_lb (lb _ (getD_mem hi)) _ _ hc⟩
theorem erase_lowG (w : WhG A) (u : WhG B) (fA : Flush A C) (fB : Flush B C) (h : LowG A B) (r : Rc) (c : Ce) : LowG (eraseG A r c) (eraseG B r c) := by
  unfold eraseG
  rw [clipped_congr fB fA h.len.symm r]
  exact changed_low h fun i hi _ _ => low_erase (w _ (getD_mem hi)) (u _ (getD_mem (by have := h.len; omega))) (h.getD i) _ _ _
theorem comes_congr (fA : Flush A C) (fB : Flush B C) (hl : A.length = B.length) (f : Rc) (tr tc : Int) : comesF A f tr tc = comesF B f tr tc := by
  unfold comesF
  rw [clipped_congr fA fB hl]
theorem from_lt (fA : Flush A C) (r : Rc) (tr tc : Int) {i : Nat} (h1 : (comesF A (clippedF A r) tr tc).t ≤ i) (h2 : (i : Int) < (comesF A (clippedF A r) tr tc).t + (comesF A (clippedF A r) tr tc).r) : ((clippedF A r).t + i - (comesF A (clippedF A r) tr tc).t).toNat < A.length ∧ Fits (clippedF A r) (comesF A (clippedF A r) tr tc) C := by
  have w := clipped_within fA r
  obtain ⟨hm, k1, k2, _⟩ := comes_ok fA (clippedF A r) ⟨w.r, w.c⟩ tr tc
  have := w.b
  have := w.t
  have := hm.t
  exact ⟨by omega, ⟨w.l, hm.l, hm.c, k2, w.e, hm.e⟩⟩
theorem copy_ok (fA : Flush A C) (w : WhG A) (lb : LbG A) (r : Rc) (tr tc : Int) : WhG (copyG A r tr tc) ∧ LbG (copyG A r tr tc) :=
  ⟨changed_all w fun i hi h1 h2 => by
    obtain ⟨h3, h4⟩ := from_lt fA r tr tc h1 h2
    exact copyRow_wh h4 (getD_len fA h3) (getD_len fA hi) (w _ (getD_mem h3)) (w _ (getD_mem hi)),
  changed_all lb fun i hi h1 h2 => by
    obtain ⟨h3, h4⟩ := from_lt fA r tr tc h1 h2
    exact copyRow_lb (lb _ (getD_mem h3)) (lb _ (getD_mem hi))⟩
theorem copy_lowG (w : WhG A) (u : WhG B) (fA : Flush A C) (fB : Flush B C) (h : LowG A B) (r : Rc) (tr tc : Int) : LowG (copyG A r tr tc) (copyG B r tr tc) := by
  have hl := h.len
  unfold copyG
  rw [clipped_congr fB fA h.len.symm r, comes_congr fB fA h.len.symm]
  refine changed_low h fun i hi h1 h2 => ?_
  obtain ⟨h3, h4⟩ := from_lt fA r tr tc h1 h2
  exact copyRow_low (w _ (getD_mem h3)) (u _ (getD_mem (by omega))) (w _ (getD_mem hi)) (u _ (getD_mem (by omega))) (h.getD _) (h.getD i)
theorem acell_label (a : An) : (acellF a).label = 0 ∨ (acellF a).label = 1 := by
  unfold acellF
  split <;> exact cellF_label a.d
theorem does_ok (fA : Flush A C) (w : WhG A) (lb : LbG A) (a : An) : WhG (doesG a A) ∧ LbG (doesG a A) := by
  unfold doesG
  split
  · exact erase_ok w lb _ (acell_label a)
  · split
    · exact erase_ok w lb _ (acell_label a)
    · exact copy_ok fA w lb _ _ _
theorem does_low (w : WhG A) (u : WhG B) (fA : Flush A C) (fB : Flush B C) (h : LowG A B) (a : An) : LowG (doesG a A) (doesG a B) := by
  unfold doesG
  split
  · exact erase_lowG w u fA fB h _ _
  · split
    · exact erase_lowG w u fA fB h _ _
    · exact copy_lowG w u fA fB h _ _ _

/-! ### Sums -/

theorem cellAt_low (h : LowG A B) (i k : Nat) : lowC (cellAt A i k) (cellAt B i k) := by
  unfold cellAt
  have hr := h.getD i
  generalize A.getD i [] = X at hr
  generalize B.getD i [] = Y at hr
  clear h
  by_cases hk : k < X.length
  · obtain ⟨c, hc⟩ : ∃ c, X[k]? = some c := ⟨_, List.getElem?_eq_getElem hk⟩
    obtain ⟨d, hd, r⟩ := hr.get hc
    rw [List.getD_eq_getElem?_getD, List.getD_eq_getElem?_getD, hc, hd]; exact r
  · rw [List.getD_eq_getElem?_getD, List.getD_eq_getElem?_getD, List.getElem?_eq_none (by omega), List.getElem?_eq_none (by have := hr.len; omega)]
    exact lowC.rfl' _
theorem cellAt_lb (h : LbG A) (i k : Nat) : (cellAt A i k).label = 0 ∨ (cellAt A i k).label = 1 := by
  unfold cellAt
  by_cases hi : i < A.length
  · by_cases hk : k < (A.getD i []).length
    · obtain ⟨c, hc⟩ : ∃ c, (A.getD i [])[k]? = some c := ⟨_, List.getElem?_eq_getElem hk⟩
      rw [List.getD_eq_getElem?_getD, hc]
      exact h _ (getD_mem hi) c (List.mem_of_getElem? hc)
    · rw [List.getD_eq_getElem?_getD, List.getElem?_eq_none (by omega)]; exact .inl rfl
  · rw [List.getD_eq_getElem?_getD (l := A), List.getElem?_eq_none (by omega)]; exact .inl rfl
theorem sum_low {α : Type} (f g : α → Ce) (hl : ∀ p, lowC (f p) (g p)) (hb : ∀ p, (f p).label = 0 ∨ (f p).label = 1) : ∀ (P : List α) (s t : Int × Int), s.2 = t.2 → (s.2 = 0 → s.1 = t.1) → (s.2 = 0 ∨ s.2 = 1) →
    ((P.map f).foldl sumS s).2 = ((P.map g).foldl sumS t).2 ∧ (((P.map f).foldl sumS s).2 = 0 → ((P.map f).foldl sumS s).1 = ((P.map g).foldl sumS t).1)
  | [], s, t, h1, h2, _ => ⟨h1, h2⟩
  | p :: P, s, t, h1, h2, h3 => by
    have hp := hl p
    have hbp := hb p
    simp only [List.map_cons, List.foldl_cons]
    refine sum_low f g hl hb P _ _ ?_ ?_ ?_
    · show joinF s.2 (f p).label = joinF t.2 (g p).label
      rw [h1, hp.1]
    · intro h0
      have h0 : joinF s.2 (f p).label = 0 := h0
      have := joinF_0 h0
      have e1 := h2 (by omega)
      have e2 := hp.2 (by omega)
      show IntKind.u16.wrap (s.1 - IntKind.u16.wrap (numF (f p))) = IntKind.u16.wrap (t.1 - IntKind.u16.wrap (numF (g p)))
      rw [e1, e2]
    · exact joinF_01 _ _
theorem cells_map (G : Gd) (m : Rc) : cellsG G m = (((List.range m.r.toNat).flatMap fun i => (List.range m.c.toNat).map fun k => (m.t.toNat + i, m.l.toNat + k)).map fun p : Nat × Nat => cellAt G p.1 p.2) := by
  unfold cellsG
  rw [List.map_flatMap]
  simp only [List.map_map]
  rfl
theorem sumG_low (fA : Flush A C) (fB : Flush B C) (h : LowG A B) (lb : LbG A) (r : Rc) : (sumG A r).2 = (sumG B r).2 ∧ ((sumG A r).2 = 0 → (sumG A r).1 = (sumG B r).1) := by
  unfold sumG
  rw [clipped_congr fB fA h.len.symm r, cells_map, cells_map]
  exact sum_low (fun p : Nat × Nat => cellAt A p.1 p.2) (fun p : Nat × Nat => cellAt B p.1 p.2) (fun p => cellAt_low h p.1 p.2) (fun p => cellAt_lb lb p.1 p.2) _ (0, 0) (0, 0) rfl (fun _ => rfl) (.inl rfl)
end

/-! ### Grids that are drawn -/

theorem grid_ok (c : Int) (T : Lns) : WhG (gridF c T) ∧ LbG (gridF c T) := by
  constructor
  · intro L hL
    obtain ⟨p, _, rfl⟩ := List.mem_map.1 hL
    exact (row_ok _ _ _).1
  · intro L hL
    obtain ⟨p, _, rfl⟩ := List.mem_map.1 hL
    exact (row_ok _ _ _).2
theorem other_in {T U : Lns} {L : List Ce} (h : L ∈ othersG T U) : ∃ p ∈ T, ∃ O, L = rowF p.1.c p.2 O := by
  obtain ⟨i, hi⟩ := List.mem_iff_getElem?.1 h
  rw [others_get] at hi
  obtain ⟨p, hp, rfl⟩ := Option.map_eq_some_iff.1 hi
  exact ⟨p, List.mem_of_getElem? hp, _, rfl⟩
theorem other_wh (c : Int) (T U : Lns) : WhG (otherG c T U) := fun L hL => by
  obtain ⟨p, _, O, rfl⟩ := other_in hL
  exact (row_ok _ _ _).1
theorem other_flush (c : Int) (T U : Lns) : Flush (otherG c T U) (c % 31).toNat := fun L hL => by
  obtain ⟨p, hp, O, rfl⟩ := other_in hL
  obtain ⟨p', _, rfl⟩ := List.mem_map.1 hp
  rw [rowF_len]
  show (c % 31 % 31).toNat = _
  omega
theorem other_low (c : Int) (T U : Lns) : LowG (gridF c T) (otherG c T U) := by
  have hg : gridF c T = (linesF c T).map fun p => rowF p.1.c p.2 [] := by simp only [gridF, linesF, List.map_map]; rfl
  refine ⟨by unfold otherG; rw [others_len, hg, List.length_map], fun i L K hL hK => ?_⟩
  unfold otherG at hK
  rw [others_get] at hK
  rw [hg, List.getElem?_map] at hL
  obtain ⟨p, hp, rfl⟩ := Option.map_eq_some_iff.1 hK
  rw [hp] at hL
  cases hL
  exact row_low _ _ _
end Go.Proofs.Ytklnbkacnghdnaa.Run
