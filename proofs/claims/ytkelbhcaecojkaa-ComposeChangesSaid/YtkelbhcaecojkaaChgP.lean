/- Changes from one screen to another one, plain: what they are, what they make. -/
import Derived.Test.YtkelbhcaecojkaaCompP
namespace Go.Proofs.Ytkelbhcaecojkaa.Run
open Go Go.RowKit
set_option linter.unusedVariables false
set_option linter.unusedSimpArgs false

/-- a change: a place, and its cell -/
structure Ch where
  i : Int
  k : Int
  c : Ce
instance : Enc Ch := ⟨16, fun a => [.int .i64 a.i, .int .i64 a.k] ++ Enc.enc a.c, fun _ => rfl, by decide⟩
def at2 (G : Gd) (i k : Nat) : Ce := (G.getD i []).getD k zeroC
def diffAt (A B : Gd) (i k : Nat) : List Ch := if at2 A i k = at2 B i k then [] else [⟨i, k, at2 B i k⟩]
def diffRow (A B : Gd) (i n : Nat) : List Ch := (List.range n).flatMap (diffAt A B i)
def diffG (A B : Gd) (C n : Nat) : List Ch := (List.range n).flatMap fun i => diffRow A B i C
theorem diffRow_succ (A B : Gd) (i n : Nat) : diffRow A B i (n + 1) = diffRow A B i n ++ diffAt A B i n := by unfold diffRow; rw [List.range_succ, List.flatMap_append]; simp
theorem diffG_succ (A B : Gd) (C n : Nat) : diffG A B C (n + 1) = diffG A B C n ++ diffRow A B n C := by unfold diffG; rw [List.range_succ, List.flatMap_append]; simp

/-- what is said last of a place -/
def lookF (l : List Ch) (i k : Nat) : Option Ce := l.foldl (fun (o : Option Ce) (x : Ch) => if x.i = (i : Int) ∧ x.k = (k : Int) then some x.c else o) none
theorem look_from (l : List Ch) (i k : Nat) : ∀ o, l.foldl (fun (o : Option Ce) (x : Ch) => if x.i = (i : Int) ∧ x.k = (k : Int) then some x.c else o) o = (lookF l i k).or o := by
  unfold lookF
  induction l with
  | nil => intro o; rfl
  | cons x l ih =>
    intro o
    simp only [List.foldl_cons]
    rw [ih, ih (if x.i = (i : Int) ∧ x.k = (k : Int) then some x.c else none)]
    split
    · cases List.foldl (fun (o : Option Ce) (x : Ch) => if x.i = (i : Int) ∧ x.k = (k : Int) then some x.c else o) none l <;> rfl
    · cases List.foldl (fun (o : Option Ce) (x : Ch) => if x.i = (i : Int) ∧ x.k = (k : Int) then some x.c else o) none l <;> rfl
theorem look_append (l m : List Ch) (i k : Nat) : lookF (l ++ m) i k = (lookF m i k).or (lookF l i k) := by
  have : lookF (l ++ m) i k = m.foldl (fun (o : Option Ce) (x : Ch) => if x.i = (i : Int) ∧ x.k = (k : Int) then some x.c else o) (lookF l i k) := by unfold lookF; rw [List.foldl_append]
  rw [this, look_from]
theorem look_at (A B : Gd) (i k i' k' : Nat) : lookF (diffAt A B i' k') i k = if i' = i ∧ k' = k ∧ at2 A i k ≠ at2 B i k then some (at2 B i k) else none := by
  unfold diffAt lookF
  by_cases h : i' = i ∧ k' = k
  · obtain ⟨rfl, rfl⟩ := h
    split
    · rename_i hc; rw [if_neg (fun hh => hh.2.2 hc)]; rfl
    · rename_i hc; rw [if_pos ⟨rfl, rfl, hc⟩]; simp
  · have hr : (if i' = i ∧ k' = k ∧ at2 A i k ≠ at2 B i k then some (at2 B i k) else none) = none := if_neg fun hh => h ⟨hh.1, hh.2.1⟩
    rw [hr]
    split
    · rfl
    · simp only [List.foldl_cons, List.foldl_nil]
      exact if_neg fun hh => h ⟨by omega, by omega⟩
theorem look_row (A B : Gd) (i k i' : Nat) : ∀ n, lookF (diffRow A B i' n) i k = if i' = i ∧ k < n ∧ at2 A i k ≠ at2 B i k then some (at2 B i k) else none
  | 0 => by rw [if_neg (by omega)]; rfl
  | n + 1 => by
    rw [diffRow_succ, look_append, look_at, look_row A B i k i' n]
    by_cases hne : at2 A i k = at2 B i k
    · simp [hne]
    · simp only [ne_eq, hne, not_false_eq_true, and_true]
      split <;> split <;> (try split) <;> first | rfl | (exfalso; omega)
theorem look_diff (A B : Gd) (i k C : Nat) : ∀ n, lookF (diffG A B C n) i k = if i < n ∧ k < C ∧ at2 A i k ≠ at2 B i k then some (at2 B i k) else none
  | 0 => by rw [if_neg (by omega)]; rfl
  | n + 1 => by
    rw [diffG_succ, look_append, look_row, look_diff A B i k C n]
    by_cases hne : at2 A i k = at2 B i k
    · simp [hne]
    · simp only [ne_eq, hne, not_false_eq_true, and_true]
      split <;> split <;> (try split) <;> first | rfl | (exfalso; omega)

/-- changes, applied -/
def applyF (G : Gd) (l : List Ch) : Gd := G.mapIdx fun i L => L.mapIdx fun k c => (lookF l i k).getD c
theorem at2_get {G : Gd} {i k : Nat} {L : List Ce} {c : Ce} (hL : G[i]? = some L) (hc : L[k]? = some c) : at2 G i k = c := by
  unfold at2
  rw [getD_some hL, List.getD_eq_getElem?_getD, hc]; rfl
/-- two screens of one size are alike if all their cells are -/
theorem gd_ext {A B : Gd} {R C : Nat} (hA : Scr A R C) (hB : Scr B R C) (h : ∀ i k, i < R → k < C → at2 A i k = at2 B i k) : A = B := by
  refine List.ext_getElem? fun i => ?_
  by_cases hi : i < R
  · obtain ⟨L, hL⟩ : ∃ L, A[i]? = some L := ⟨_, List.getElem?_eq_getElem (by rw [hA.len]; exact hi)⟩
    obtain ⟨K, hK⟩ : ∃ K, B[i]? = some K := ⟨_, List.getElem?_eq_getElem (by rw [hB.len]; exact hi)⟩
    have lL := hA.row L (List.mem_of_getElem? hL)
    have lK := hB.row K (List.mem_of_getElem? hK)
    rw [hL, hK]
    congr 1
    refine List.ext_getElem? fun k => ?_
    by_cases hk : k < C
    · obtain ⟨c, hc⟩ : ∃ c, L[k]? = some c := ⟨_, List.getElem?_eq_getElem (by rw [lL]; exact hk)⟩
      obtain ⟨d, hd⟩ : ∃ d, K[k]? = some d := ⟨_, List.getElem?_eq_getElem (by rw [lK]; exact hk)⟩
      have := h i k hi hk
      rw [at2_get hL hc, at2_get hK hd] at this
      rw [hc, hd, this]
    · rw [List.getElem?_eq_none (by omega), List.getElem?_eq_none (by omega)]
  · rw [List.getElem?_eq_none (by rw [hA.len]; omega), List.getElem?_eq_none (by rw [hB.len]; omega)]
theorem apply_scr {G : Gd} {R C : Nat} (h : Scr G R C) (l : List Ch) : Scr (applyF G l) R C := by
  refine ⟨by unfold applyF; rw [List.length_mapIdx]; exact h.len, fun L hL => ?_⟩
  obtain ⟨i, hi⟩ := List.mem_iff_getElem?.1 hL
  unfold applyF at hi
  rw [List.getElem?_mapIdx] at hi
  obtain ⟨K, hK, rfl⟩ := Option.map_eq_some_iff.1 hi
  rw [List.length_mapIdx]; exact h.row K (List.mem_of_getElem? hK)
theorem apply_at {G : Gd} {R C : Nat} (h : Scr G R C) (l : List Ch) {i k : Nat} (hi : i < R) (hk : k < C) : at2 (applyF G l) i k = (lookF l i k).getD (at2 G i k) := by
  obtain ⟨L, hL⟩ : ∃ L, G[i]? = some L := ⟨_, List.getElem?_eq_getElem (by rw [h.len]; exact hi)⟩
  have lL := h.row L (List.mem_of_getElem? hL)
  obtain ⟨c, hc⟩ : ∃ c, L[k]? = some c := ⟨_, List.getElem?_eq_getElem (by rw [lL]; exact hk)⟩
  have h1 : (applyF G l)[i]? = some (L.mapIdx fun k c => (lookF l i k).getD c) := by unfold applyF; rw [List.getElem?_mapIdx, hL]; rfl
  rw [at2_get hL hc, at2_get h1 (c := (lookF l i k).getD c) (by rw [List.getElem?_mapIdx, hc]; rfl)]
/-- changes make the one screen of the other one -/
theorem apply_diff {A B : Gd} {R C : Nat} (hA : Scr A R C) (hB : Scr B R C) : applyF A (diffG A B C R) = B := by
  refine gd_ext (apply_scr hA _) hB fun i k hi hk => ?_
  rw [apply_at hA _ hi hk, look_diff]
  split
  · rfl
  · rename_i h
    show at2 A i k = at2 B i k
    exact Classical.byContradiction fun hn => h ⟨hi, hk, hn⟩
/-- by way of a third screen it is the same -/
theorem apply_two {A B D : Gd} {R C : Nat} (hA : Scr A R C) (hB : Scr B R C) (hD : Scr D R C) : applyF A (diffG A B C R ++ diffG B D C R) = D := by
  refine gd_ext (apply_scr hA _) hD fun i k hi hk => ?_
  rw [apply_at hA _ hi hk, look_append, look_diff, look_diff]
  split
  · rfl
  · rename_i h
    have hBD : at2 B i k = at2 D i k := Classical.byContradiction fun hn => h ⟨hi, hk, hn⟩
    split
    · exact hBD
    · rename_i h'
      have hAB : at2 A i k = at2 B i k := Classical.byContradiction fun hn => h' ⟨hi, hk, hn⟩
      show at2 A i k = at2 D i k
      rw [hAB, hBD]

theorem diffAt_places (A B : Gd) (i k : Nat) : (diffAt A B i k).map (fun x => (x.i, x.k)) = (diffAt B A i k).map fun x => (x.i, x.k) := by
  unfold diffAt
  by_cases h : at2 A i k = at2 B i k
  · rw [if_pos h, if_pos h.symm]
  · rw [if_neg h, if_neg (fun e => h e.symm)]; rfl
/-- the places are the same ones, there and back -/
theorem diff_places (A B : Gd) (C n : Nat) : (diffG A B C n).map (fun x => (x.i, x.k)) = (diffG B A C n).map fun x => (x.i, x.k) := by
  unfold diffG diffRow
  simp only [List.map_flatMap, diffAt_places A B]
theorem diff_mem {A B : Gd} {C n : Nat} {x : Ch} (h : x ∈ diffG A B C n) : ∃ i k : Nat, i < n ∧ k < C ∧ x = ⟨i, k, at2 B i k⟩ ∧ at2 A i k ≠ at2 B i k := by
  unfold diffG diffRow at h
  obtain ⟨i, hi, h⟩ := List.mem_flatMap.1 h
  obtain ⟨k, hk, h⟩ := List.mem_flatMap.1 h
  unfold diffAt at h
  split at h
  · cases h
  · rename_i hne
    exact ⟨i, k, List.mem_range.1 hi, List.mem_range.1 hk, by simpa using h, hne⟩
/-- there are none just if both are alike -/
theorem diff_nil {A B : Gd} {R C : Nat} (hA : Scr A R C) (hB : Scr B R C) : diffG A B C R = [] ↔ A = B := by
  constructor
  · intro h
    have := apply_diff hA hB
    rw [h] at this
    rw [← this]
    refine gd_ext hA (apply_scr hA _) fun i k hi hk => ?_
    rw [apply_at hA _ hi hk]; rfl
  · rintro rfl
    cases hd : diffG A A C R with
    | nil => rfl
    | cons x l =>
      obtain ⟨i, k, _, _, _, hne⟩ := diff_mem (x := x) (A := A) (B := A) (C := C) (n := R) (by rw [hd]; exact List.mem_cons_self)
      exact absurd rfl hne
/-- one place comes ahead of another one -/
def ahead (x y : Ch) : Prop := x.i < y.i ∨ (x.i = y.i ∧ x.k < y.k)
theorem diffRow_rise (A B : Gd) (i : Nat) : ∀ n, (diffRow A B i n).Pairwise ahead ∧ ∀ x ∈ diffRow A B i n, x.i = i ∧ x.k < n
  | 0 => ⟨.nil, fun x hx => by cases hx⟩
  | n + 1 => by
    obtain ⟨h1, h2⟩ := diffRow_rise A B i n
    rw [diffRow_succ]
    have hl : ∀ x ∈ diffAt A B i n, x.i = i ∧ x.k = n := fun x hx => by
      unfold diffAt at hx
      split at hx
      · cases hx
      · rw [List.mem_singleton] at hx; subst hx; exact ⟨rfl, rfl⟩
    have hp : (diffAt A B i n).Pairwise ahead := by
      unfold diffAt
      split
      · exact .nil
      · exact List.pairwise_singleton _ _
    refine ⟨List.pairwise_append.2 ⟨h1, hp, fun x hx y hy => .inr ?_⟩, fun x hx => ?_⟩
    · have := h2 x hx
      have := hl y hy
      omega
    · rcases List.mem_append.1 hx with hx | hx
      · have := h2 x hx; omega
      · have := hl x hx; omega
/-- they rise by places -/
theorem diff_rise (A B : Gd) (C : Nat) : ∀ n, (diffG A B C n).Pairwise ahead
  | 0 => .nil
  | n + 1 => by
    rw [diffG_succ]
    refine List.pairwise_append.2 ⟨diff_rise A B C n, (diffRow_rise A B n C).1, fun x hx y hy => .inl ?_⟩
    obtain ⟨i, k, hi, _, rfl, _⟩ := diff_mem hx
    have := (diffRow_rise A B n C).2 y hy
    show (i : Int) < y.i
    omega
end Go.Proofs.Ytkelbhcaecojkaa.Run
