/- What package pane answers: whether panes may be, whether they are apart, which one has a place. -/
import Derived.Test.YtkelbhcaecojkaaCompP
import Derived.Test.YtkelbhcaecojkaaVcQ
namespace Go.Proofs.Ytkelbhcaecojkaa.Run
open Go Go.RowKit
set_option linter.unusedVariables false
set_option linter.unusedSimpArgs false
def scrOk (R C : Int) : Bool := decide (2 ≤ R ∧ R ≤ 512 ∧ 1 ≤ C ∧ C ≤ 512)
def spanF (a n b m : Int) : Bool := decide (0 < n ∧ 0 < m ∧ a < b + m ∧ b < a + n)
def inF (R C : Int) (a : Rc) : Bool := decide ((2 ≤ R ∧ R ≤ 512 ∧ 1 ≤ C ∧ C ≤ 512) ∧ 1 ≤ a.t ∧ 0 ≤ a.l ∧ 1 ≤ a.r ∧ 1 ≤ a.c ∧ a.t + a.r ≤ R ∧ a.l + a.c ≤ C)
def hasF (a : Rc) (i k : Int) : Bool := decide (0 < a.r ∧ 0 < a.c ∧ a.t ≤ i ∧ i < a.t + a.r ∧ a.l ≤ k ∧ k < a.l + a.c)
def meetF (a b : Rc) : Bool := spanF a.t a.r b.t b.r && spanF a.l a.c b.l b.c
def apartF (L : List Rc) : Bool := decide (L.Pairwise fun x y => meetF y x = false)
theorem apartF_iff {L : List Rc} : apartF L = true ↔ ∀ (x y : Nat) (a b : Rc), L[x]? = some a → L[y]? = some b → y < x → meetF a b = false := by
  unfold apartF
  rw [decide_eq_true_iff, List.pairwise_iff_getElem]
  constructor
  · intro h x y a b hx hy hlt
    obtain ⟨h1, rfl⟩ := List.getElem?_eq_some_iff.1 hx
    obtain ⟨h2, rfl⟩ := List.getElem?_eq_some_iff.1 hy
    exact h y x h2 h1 hlt
  · intro h i j hi hj hlt
    exact h j i _ _ (List.getElem?_eq_getElem hj) (List.getElem?_eq_getElem hi) hlt
def checkF (R C : Int) (L : List Rc) : Int := if scrOk R C then (if L.all (inF R C) && apartF L then 0 else 8) else 5
theorem check0 {R C : Int} {L : List Rc} : checkF R C L = 0 ↔ scrOk R C = true ∧ (∀ a ∈ L, inF R C a = true) ∧ apartF L = true := by
  unfold checkF
  by_cases hs : scrOk R C = true
  · rw [if_pos hs]
    by_cases h : (L.all (inF R C) && apartF L) = true
    · rw [if_pos h]
      rw [Bool.and_eq_true, List.all_eq_true] at h
      exact ⟨fun _ => ⟨hs, h.1, h.2⟩, fun _ => rfl⟩
    · rw [if_neg h]
      refine ⟨fun h' => (by cases h'), fun ⟨_, h1, h2⟩ => absurd ?_ h⟩
      rw [Bool.and_eq_true, List.all_eq_true]
      exact ⟨h1, h2⟩
  · rw [if_neg hs]
    exact ⟨fun h => (by cases h), fun h => absurd h.1 hs⟩
theorem meet_comm (a b : Rc) : meetF a b = meetF b a := by
  unfold meetF spanF
  rw [Bool.eq_iff_iff]
  simp only [Bool.and_eq_true, decide_eq_true_eq]
  omega
theorem meet_of_has {a b : Rc} {i k : Int} (ha : hasF a i k = true) (hb : hasF b i k = true) : meetF a b = true := by
  have h1 := of_decide_eq_true ha
  have h2 := of_decide_eq_true hb
  unfold meetF spanF
  rw [Bool.and_eq_true]
  exact ⟨decide_eq_true (by omega), decide_eq_true (by omega)⟩
theorem clip_inside {R C : Int} {a : Rc} (h : inF R C a = true) : clipF a R C = a := by
  have d := of_decide_eq_true h
  obtain ⟨t, l, r, c⟩ := a
  simp only at d
  have h1 : rspanF t r R = (t, t + r) := by
    unfold rspanF
    rw [if_neg (by omega)]
    split <;> (refine Prod.ext ?_ ?_ <;> simp only <;> omega)
  have h2 : rspanF l c C = (l, l + c) := by
    unfold rspanF
    rw [if_neg (by omega)]
    split <;> (refine Prod.ext ?_ ?_ <;> simp only <;> omega)
  unfold clipF
  simp only [h1, h2]
  rw [if_neg (by omega)]
  rw [show t + r - t = r by omega, show l + c - l = c by omega]
theorem cut_plain {L : List Ce} {p : Nat} {c : Ce} (hc : c.kind = 0) (h : L[p]? = some c ∨ L[p - 1]? = some c) : ¬ cutF L p = true := fun hq => by
  obtain ⟨a, b, _, ha, hb, h1, h2⟩ := cutF_iff.1 hq
  rcases h with h | h
  · rw [hb] at h; cases h; omega
  · rw [ha] at h; cases h; omega
theorem brk_no {L : List Ce} {p : Int} (h : ¬ cutF L (clampN p L.length) = true) : breakF L p = L := by rw [breakF_clamp, if_neg h]
theorem brk_zero (L : List Ce) : breakF L 0 = L := brk_no fun h => by
  obtain ⟨a, b, h0, _⟩ := cutF_iff.1 h
  rw [clampN_of (by omega) (by omega)] at h0
  omega
theorem lay_get {L own : List Ce} {x n : Int} (h : 0 ≤ x ∧ x + n ≤ L.length) (hz : ∀ j : Nat, x ≤ j → (j : Int) < x + n → L[j]? = some zeroC) (k : Nat) :
    (layF L own x 0 n)[k]? = if x ≤ k ∧ (k : Int) < x + min n own.length then (breakF own (min n own.length))[((k : Int) - x).toNat]? else L[k]? := by
  unfold layF
  rw [Int.sub_zero]
  by_cases hm : min n (own.length : Int) ≤ 0
  · rw [if_pos hm, if_neg (by omega)]
  rw [if_neg hm]
  generalize hmd : min n (own.length : Int) = m at hm ⊢
  have hmn : m ≤ n ∧ m ≤ own.length := by omega
  have e1 : brk2 L x (x + m) = L := by
    unfold brk2
    have g1 : breakF L x = L := by
      refine brk_no ?_
      rw [clampN_of (by omega) (by omega)]
      exact cut_plain (c := zeroC) rfl (.inl (hz _ (by omega) (by omega)))
    rw [g1]
    refine brk_no ?_
    rw [clampN_of (by omega) (by omega)]
    exact cut_plain (c := zeroC) rfl (.inr (hz _ (by omega) (by omega)))
  have e2 : brk2 own 0 (0 + m) = breakF own m := by
    unfold brk2
    rw [brk_zero, Int.zero_add]
  rw [e1, e2]
  have l2 : (breakF own m).length = own.length := breakF_len _ _
  rw [show (0 : Int).toNat = 0 from rfl, List.drop_zero]
  have t1 : (L.take x.toNat).length = x.toNat := by rw [List.length_take]; omega
  have t2 : ((breakF own m).take m.toNat).length = m.toNat := by rw [List.length_take, l2]; omega
  by_cases c1 : (k : Int) < x
  · rw [if_neg (by omega), List.append_assoc, List.getElem?_append_left (by rw [t1]; omega), List.getElem?_take, if_pos (by omega)]
  · by_cases c2 : (k : Int) < x + m
    · rw [if_pos ⟨by omega, c2⟩, List.append_assoc, List.getElem?_append_right (by rw [t1]; omega), t1, List.getElem?_append_left (by rw [t2]; omega), List.getElem?_take, if_pos (by omega)]
      congr 1
      omega
    · rw [if_neg (by omega), List.getElem?_append_right (by rw [List.length_append, t1, t2]; omega), List.length_append, t1, t2, List.getElem?_drop]
      congr 1
      omega
def ownC (a : Tl × Gd) (i k : Int) : Ce := (a.2.getD (i - a.1.r.t).toNat []).getD (k - a.1.r.l).toNat zeroC
def shownC (a : Tl × Gd) (i k : Int) : Ce := (breakF (a.2.getD (i - a.1.r.t).toNat []) (min a.1.r.c (a.2.getD (i - a.1.r.t).toNat []).length)).getD (k - a.1.r.l).toNat zeroC
theorem shown_ok (a : Tl × Gd) (i k : Int) : shownC a i k = ownC a i k ∨ ((ownC a i k).kind ≠ 0 ∧ shownC a i k = (ownC a i k).bare) := by
  unfold shownC ownC
  generalize a.2.getD (i - a.1.r.t).toNat [] = O
  generalize (k - a.1.r.l).toNat = j
  rw [List.getD_eq_getElem?_getD, List.getD_eq_getElem?_getD, breakF_get]
  cases hc : O[j]? with
  | none => exact .inl rfl
  | some c =>
    simp only [Option.map_some, Option.getD_some]
    split
    · rename_i h
      obtain ⟨h1, h2⟩ := h
      obtain ⟨x, y, h0, hx, hy, k1, k2⟩ := cutF_iff.1 h1
      refine .inr ⟨?_, rfl⟩
      rcases h2 with h2 | h2
      · rw [show clampN (min a.1.r.c O.length) O.length - 1 = j by omega, hc] at hx
        cases hx; omega
      · rw [← h2, hc] at hy
        cases hy; omega
    · exact .inl rfl
def cellS (T : Tls) (i k : Int) : Ce := match T.find? fun a => hasF a.1.r i k with
  | some a => shownC a i k
  | none => zeroC
structure Shows (R C : Nat) (B : List Ce) (T : Tls) (G : Gd) : Prop where
  scr : Scr G R C
  top : G[0]? = some (resizeF B C zeroC)
  at' : ∀ (i k : Nat) (L : List Ce), 1 ≤ i → G[i]? = some L → k < C → L[k]? = some (cellS T i k)
theorem shows0 (R C : Nat) (hR : 0 < R) (B : List Ce) : Shows R C B [] (screen0 R C B) := by
  refine ⟨scr0 R C hR B, rfl, fun i k L hi hL hk => ?_⟩
  have hm : L ∈ List.replicate (R - 1) (List.replicate C zeroC) := by
    obtain ⟨j, rfl⟩ : ∃ j, i = j + 1 := ⟨i - 1, by omega⟩
    unfold screen0 at hL
    rw [List.getElem?_cons_succ] at hL
    exact List.mem_of_getElem? hL
  rw [(List.mem_replicate.1 hm).2, List.getElem?_replicate, if_pos hk]
  rfl
theorem Shows.step {R C : Nat} {B : List Ce} {T : Tls} {G : Gd} (h : Shows R C B T G) {a : Tl × Gd} (hin : inF R C a.1.r = true) (hap : ∀ b ∈ T, meetF a.1.r b.1.r = false) : Shows R C B (T ++ [a]) (tileF R C a G) := by
  have d := of_decide_eq_true hin
  have hcl : clipF a.1.r R C = a.1.r := clip_inside hin
  have hnone : ∀ i k : Int, hasF a.1.r i k = true → (T.find? fun b => hasF b.1.r i k) = none := fun i k hh => by
    rw [List.find?_eq_none]
    intro b hb hb2
    have := hap b hb
    rw [meet_of_has hh hb2] at this
    cases this
  have hnew : ∀ i k : Int, hasF a.1.r i k = true → cellS (T ++ [a]) i k = shownC a i k := fun i k hh => by
    unfold cellS
    rw [List.find?_append, hnone i k hh, Option.none_or, List.find?_cons_of_pos (by exact hh)]
  have hold : ∀ i k : Int, hasF a.1.r i k = false → cellS (T ++ [a]) i k = cellS T i k := fun i k hh => by
    unfold cellS
    rw [List.find?_append, List.find?_cons_of_neg (by rw [hh]; simp), List.find?_nil, Option.or_none]
  refine ⟨h.scr.tileTo a R, ?_, fun i k K hi hK hk => ?_⟩
  · unfold tileF
    rw [tileTo_get, h.top, Option.map_some, if_neg (by omega)]
  · unfold tileF at hK
    rw [tileTo_get, hcl] at hK
    obtain ⟨L, hL, rfl⟩ := Option.map_eq_some_iff.1 hK
    have hLl := h.scr.row L (List.mem_of_getElem? hL)
    have hiR : i < R := by have := (List.getElem?_eq_some_iff.1 hL).1; rw [h.scr.len] at this; exact this
    have hcell := fun k hk => h.at' i k L hi hL hk
    have hzero : a.1.r.t ≤ i ∧ (i : Int) < a.1.r.t + a.1.r.r → ∀ j : Nat, a.1.r.l ≤ j → (j : Int) < a.1.r.l + a.1.r.c → hasF a.1.r i j = true ∧ L[j]? = some zeroC := fun hr j h1 h2 => by
      have hh : hasF a.1.r i j = true := decide_eq_true (by omega)
      refine ⟨hh, ?_⟩
      rw [hcell j (by omega)]
      unfold cellS
      rw [hnone _ _ hh]
    have hsub : a.1.r.l - a.1.r.l = 0 := by omega
    by_cases hr : a.1.r.t ≤ i ∧ (i : Int) < a.1.r.t + a.1.r.r
    rotate_left
    · rw [if_neg (by omega), hold _ _ (decide_eq_false (by omega))]
      exact hcell k hk
    by_cases hrow : (i : Int) - a.1.r.t < a.2.length
    · rw [if_pos ⟨by omega, by omega, hrow, by omega⟩, hsub, lay_get ⟨by omega, by rw [hLl]; omega⟩ (fun j h1 h2 => (hzero hr j h1 h2).2)]
      by_cases hcol : a.1.r.l ≤ k ∧ (k : Int) < a.1.r.l + a.1.r.c
      · have hh := (hzero hr k hcol.1 hcol.2).1
        rw [hnew _ _ hh]
        unfold shownC
        generalize a.2.getD ((i : Int) - a.1.r.t).toNat [] = O
        have l2 : ∀ m, (breakF O m).length = O.length := fun m => breakF_len _ _
        by_cases hc : (k : Int) < a.1.r.l + min a.1.r.c O.length
        · rw [if_pos ⟨hcol.1, hc⟩, List.getD_eq_getElem?_getD, List.getElem?_eq_getElem (by rw [l2]; omega)]
          rfl
        · rw [if_neg (by omega), (hzero hr k hcol.1 hcol.2).2, List.getD_eq_getElem?_getD, List.getElem?_eq_none (by rw [l2]; omega)]
          rfl
      · rw [if_neg (by omega), hold _ _ (decide_eq_false (by omega))]
        exact hcell k hk
    · rw [if_neg (by omega)]
      by_cases hcol : a.1.r.l ≤ k ∧ (k : Int) < a.1.r.l + a.1.r.c
      · obtain ⟨hh, hz⟩ := hzero hr k hcol.1 hcol.2
        rw [hnew _ _ hh, hz]
        unfold shownC
        have : a.2.getD ((i : Int) - a.1.r.t).toNat [] = [] := by rw [List.getD_eq_getElem?_getD, List.getElem?_eq_none (by omega)]; rfl
        rw [this]
        have l2 : (breakF [] (min a.1.r.c (([] : List Ce).length : Int))).length = 0 := breakF_len _ _
        rw [List.getD_eq_getElem?_getD, List.getElem?_eq_none (by rw [l2]; omega)]
        rfl
      · rw [hold _ _ (decide_eq_false (by omega))]
        exact hcell k hk
theorem shows_to {R C : Nat} (hR : 0 < R) (B : List Ce) {T : Tls} (hin : ∀ a ∈ T, inF R C a.1.r = true) (hap : T.Pairwise fun x y => meetF y.1.r x.1.r = false) : ∀ n, n ≤ T.length → Shows R C B (T.take n) ((T.take n).foldl (fun G a => tileF R C a G) (screen0 R C B))
  | 0, _ => by rw [List.take_zero]; exact shows0 R C hR B
  | n + 1, hn => by
    have ih := shows_to hR B hin hap n (by omega)
    rw [List.take_succ_eq_append_getElem (show n < T.length by omega), List.foldl_append]
    refine ih.step (hin _ (List.getElem_mem _)) fun b hb => ?_
    obtain ⟨j, hj⟩ := List.mem_iff_getElem?.1 hb
    rw [List.getElem?_take] at hj
    split at hj
    · obtain ⟨h1, rfl⟩ := List.getElem?_eq_some_iff.1 hj
      exact (List.pairwise_iff_getElem.1 hap) j n h1 (by omega) (by assumption)
    · cases hj
theorem shows_all {R C : Nat} (hR : 0 < R) (B : List Ce) {T : Tls} (hin : ∀ a ∈ T, inF R C a.1.r = true) (hap : T.Pairwise fun x y => meetF y.1.r x.1.r = false) : Shows R C B T (screenF R C B T) := by
  have := shows_to hR B hin hap T.length (Nat.le_refl _)
  rw [List.take_length] at this
  exact this
theorem apart_map {T : Tls} (h : apartF (T.map fun a => a.1.r) = true) : T.Pairwise fun x y => meetF y.1.r x.1.r = false := by
  have := of_decide_eq_true h
  exact List.pairwise_map.1 this
theorem apart_one {T : Tls} (hap : T.Pairwise fun x y => meetF y.1.r x.1.r = false) {i k : Int} {x y : Nat} {a b : Tl × Gd} (hx : T[x]? = some a) (hy : T[y]? = some b) (ha : hasF a.1.r i k = true) (hb : hasF b.1.r i k = true) : x = y := by
  obtain ⟨h1, rfl⟩ := List.getElem?_eq_some_iff.1 hx
  obtain ⟨h2, rfl⟩ := List.getElem?_eq_some_iff.1 hy
  have hm := List.pairwise_iff_getElem.1 hap
  rcases Nat.lt_trichotomy x y with h | h | h
  · have := hm x y h1 h2 h
    rw [meet_of_has hb ha] at this; cases this
  · exact h
  · have := hm y x h2 h1 h
    rw [meet_of_has ha hb] at this; cases this
theorem find_at {T : Tls} {i k : Int} {n : Nat} {a : Tl × Gd} (hap : T.Pairwise fun x y => meetF y.1.r x.1.r = false) (hn : T[n]? = some a) (ha : hasF a.1.r i k = true) : cellS T i k = shownC a i k := by
  unfold cellS
  cases hf : T.find? fun a => hasF a.1.r i k with
  | none =>
    rw [List.find?_eq_none] at hf
    exact absurd ha (hf a (List.mem_of_getElem? hn))
  | some b =>
    have hb : hasF b.1.r i k = true := List.find?_some (p := fun a : Tl × Gd => hasF a.1.r i k) hf
    obtain ⟨m, hm⟩ := List.mem_iff_getElem?.1 (List.mem_of_find?_eq_some hf)
    have := apart_one hap hm hn hb ha
    subst this
    rw [hm] at hn; cases hn
    rfl
theorem find_no {T : Tls} {i k : Int} (h : ∀ a ∈ T, hasF a.1.r i k = false) : cellS T i k = zeroC := by
  unfold cellS
  have : (T.find? fun a => hasF a.1.r i k) = none := by
    rw [List.find?_eq_none]
    intro a ha hh
    rw [h a ha] at hh; cases hh
  rw [this]
theorem pair_rev {T : Tls} (hap : T.Pairwise fun x y => meetF y.1.r x.1.r = false) : T.reverse.Pairwise fun x y => meetF y.1.r x.1.r = false := by
  rw [List.pairwise_reverse]
  exact hap.imp fun {a b} hab => by rw [meet_comm]; exact hab
theorem cellS_rev {T : Tls} (hap : T.Pairwise fun x y => meetF y.1.r x.1.r = false) (i k : Int) : cellS T.reverse i k = cellS T i k := by
  by_cases h : ∃ a ∈ T, hasF a.1.r i k = true
  · obtain ⟨a, ha, hh⟩ := h
    obtain ⟨n, hn⟩ := List.mem_iff_getElem?.1 ha
    obtain ⟨m, hm⟩ := List.mem_iff_getElem?.1 (List.mem_reverse.2 ha)
    rw [find_at hap hn hh, find_at (pair_rev hap) hm hh]
  · have hno : ∀ a ∈ T, hasF a.1.r i k = false := fun a ha => by
      cases hh : hasF a.1.r i k with
      | false => rfl
      | true => exact absurd ⟨a, ha, hh⟩ h
    rw [find_no hno, find_no fun a ha => hno a (List.mem_reverse.1 ha)]
theorem screen_rev {R C : Nat} (hR : 0 < R) (B : List Ce) {T : Tls} (hin : ∀ a ∈ T, inF R C a.1.r = true) (hap : T.Pairwise fun x y => meetF y.1.r x.1.r = false) : screenF R C B T.reverse = screenF R C B T := by
  have s1 := shows_all hR B hin hap
  have s2 := shows_all hR B (T := T.reverse) (fun a ha => hin a (List.mem_reverse.1 ha)) (pair_rev hap)
  refine List.ext_getElem? fun i => ?_
  by_cases hi : i < R
  · obtain ⟨L, hL⟩ : ∃ L, (screenF R C B T.reverse)[i]? = some L := ⟨_, List.getElem?_eq_getElem (by rw [s2.scr.len]; exact hi)⟩
    obtain ⟨K, hK⟩ : ∃ K, (screenF R C B T)[i]? = some K := ⟨_, List.getElem?_eq_getElem (by rw [s1.scr.len]; exact hi)⟩
    rcases Nat.eq_zero_or_pos i with rfl | h0
    · rw [s1.top, s2.top]
    · rw [hL, hK]
      congr 1
      refine List.ext_getElem? fun k => ?_
      by_cases hk : k < C
      · rw [s2.at' i k L h0 hL hk, s1.at' i k K h0 hK hk, cellS_rev hap]
      · rw [List.getElem?_eq_none (by rw [s2.scr.row L (List.mem_of_getElem? hL)]; omega), List.getElem?_eq_none (by rw [s1.scr.row K (List.mem_of_getElem? hK)]; omega)]
  · rw [List.getElem?_eq_none (by rw [s2.scr.len]; omega), List.getElem?_eq_none (by rw [s1.scr.len]; omega)]
end Go.Proofs.Ytkelbhcaecojkaa.Run
namespace Go.Proofs.Ytkelbhcaecojkaa.Run
open Go Go.RowKit
set_option linter.unusedVariables false
set_option linter.unusedSimpArgs false
abbrev Ps := Int × Int
abbrev posV (p : Ps) : Value := .agg #[.int .i64 p.1, .int .i64 p.2]
section
variable {M : Mem} {Q : Value → Mem → Prop}
theorem pscreen_W (hM : M.base ≤ M.size) {R C : Int} (q : Q (.bool (scrOk R C)) M) : W funs known (.func (.func n_pane_screen) #[] #[]) [.int .i64 R, .int .i64 C] M Q := by
  refine pane_screen_wp hM ?_
  repeat' (first | refine step_gtr ?_ | refine step_lss ?_ | refine step_leq ?_ | refine step_geq ?_ | refine step_eql ?_ | refine step_neq ?_ | refine step_not ?_ | refine wpIf.dec (fun _ => ?_) (fun _ => ?_) | refine wpIf.tt ?_ | refine wpIf.ff ?_ | refine step_add (by omega) (by omega) ?_ | refine step_sub (by omega) (by omega) ?_ | refine step_max ?_ | refine step_min ?_)
  all_goals refine q_of q ?_
  all_goals unfold scrOk
  all_goals first | exact decide_eq_decide.2 (by omega) | exact decide_eq_false (by omega) | exact decide_eq_true (by omega)
theorem wrap_u64 (x : Int) : IntKind.u64.wrap x = x % 18446744073709551616 := rfl
theorem step_u64span {x y m : Int} {P : Value → Prop} (hx : I64 x) (hy : I64 y) (hm : I64 m) (h : y ≤ x) (h0 : 0 < m) (p : P (.bool (decide (x - y < m)))) :
    ∃ v4, opSem (.convI .u64 (.const (.int .i64 x))) [] M = some (v4, M) ∧ ∃ v5, opSem (.convI .u64 (.const (.int .i64 y))) [] M = some (v5, M) ∧ ∃ v6, binV .sub 0 [] v4 v5 = some v6 ∧
      ∃ v7, opSem (.convI .u64 (.const (.int .i64 m))) [] M = some (v7, M) ∧ ∃ v8, binV .lss 0 [] v6 v7 = some v8 ∧ P v8 := by
  refine ⟨.int .u64 (IntKind.u64.wrap x), by simp only [opSem, ev], .int .u64 (IntKind.u64.wrap y), by simp only [opSem, ev], .int .u64 (IntKind.u64.wrap (IntKind.u64.wrap x - IntKind.u64.wrap y)), rfl, .int .u64 (IntKind.u64.wrap m), by simp only [opSem, ev], ?_⟩
  refine step_lss ?_
  have : (IntKind.u64.wrap (IntKind.u64.wrap x - IntKind.u64.wrap y) < IntKind.u64.wrap m) = (x - y < m) := by
    simp only [wrap_u64]
    unfold I64 at hx hy hm
    apply propext
    omega
  simp only [this]
  exact p
theorem span_W (hM : M.base ≤ M.size) {a n b m : Int} (ha : I64 a) (hn : I64 n) (hb : I64 b) (hm : I64 m) (q : Q (.bool (spanF a n b m)) M) : W funs known (.func (.func n_pane_span) #[] #[]) [.int .i64 a, .int .i64 n, .int .i64 b, .int .i64 m] M Q := by
  refine pane_span_wp hM ?_
  repeat' (first | refine step_gtr ?_ | refine wpIf.dec (fun _ => ?_) (fun _ => ?_) | refine step_u64span (by assumption) (by assumption) (by assumption) (by omega) (by omega) ?_)
  all_goals refine q_of q ?_
  all_goals unfold spanF
  all_goals first | exact decide_eq_decide.2 (by omega) | exact decide_eq_false (by omega) | exact decide_eq_true (by omega)
structure Cl where
  v : Value
instance : Enc Cl := ⟨1, fun a => [a.v], fun _ => rfl, by decide⟩
abbrev allI (M : Mem) (B : Nat → Bool) (v : Value) (n : Nat) : Nat → LS → Prop := fun k s => ∃ (i : Nat) (M' : Mem), s = pane_all_l1_s v (.int .i64 n) (.int .i64 i) [] M' ∧ Ext M M' ∧ i ≤ n ∧ (∀ j, j < i → B j = true) ∧ k = n - i
theorem all_W {M : Mem} (hM : M.base ≤ M.size) {v : Value} {L : List Cl} (h : Sl M v L) {B : Nat → Bool} (hL : L.length < 2 ^ 60)
    (hf : ∀ i a, L[i]? = some a → ∀ M' (Q : Value → Mem → Prop), Ext M M' → (∀ j, j < i → B j = true) → (∀ M'', Ext M' M'' → Q (.bool (B i)) M'') → W funs known a.v [] M' Q)
    (q : ∀ M' b, Ext M M' → (b = true ↔ ∀ j, j < L.length → B j = true) → Q (.bool b) M') : W funs known (.func (.func n_pane_all) #[] #[]) [v] M Q := by
  obtain ⟨ad, cap, rfl, hcap, hs⟩ := id h
  refine pane_all_wp hM (step_len ?_)
  refine ⟨pane_all_l1_m, allI M B (.slice ad L.length cap) L.length, ⟨L.length, 0, M, rfl, Ext.refl M, Nat.zero_le _, fun j hj => absurd hj (by omega), rfl⟩, ?_⟩
  rintro k s ⟨i, M', rfl, eM, hi, hB, rfl⟩
  refine pane_all_l1_wp (I := allI M B (.slice ad L.length cap) L.length) ?_
  refine step_lss (wpIf.dec (fun h1 => ?_) (fun h1 => ?_))
  · have hlt : i < L.length := by omega
    have ha : L[i]? = some L[i] := List.getElem?_eq_getElem hlt
    obtain ⟨p, hp, hat⟩ := (h.ext eM).addr (i := (i : Int)) (by omega) (a := L[i]) (by rw [Int.toNat_natCast]; exact ha) (j := .i64) M'
    refine ⟨p, hp, _, hat.load1 rfl, hf i _ ha M' _ eM hB fun M'' e2 => step_not (wpIf.not (fun hb => ?_) (fun hb => ?_))⟩
    · refine q M'' false (eM.trans e2) ⟨fun h => (by cases h), fun h => ?_⟩
      rw [h i hlt] at hb; cases hb
    · refine step_add (by omega) (by omega) ⟨L.length - (i + 1), by omega, i + 1, M'', rfl, eM.trans e2, by omega, fun j hj => ?_, rfl⟩
      rcases Nat.lt_or_eq_of_le (Nat.le_of_lt_succ hj) with h2 | rfl
      · exact hB j h2
      · exact hb
  · refine blockK.hit (pane_all_c0_wp ?_)
    exact q M' true eM ⟨fun _ j hj => hB j (by omega), fun _ => rfl⟩
theorem eql_rc (a b : Rc) : binV .eql 2 [0, 0, 0, 0] a.val b.val = some (.bool (decide (a = b))) := by
  show (if (2 : Nat) = 2 then (eqV true [0, 0, 0, 0] a.val b.val).bind (negIf .eql) else none) = _
  obtain ⟨a1, a2, a3, a4⟩ := a
  obtain ⟨b1, b2, b3, b4⟩ := b
  rw [if_pos rfl]
  by_cases h1 : a1 = b1 <;> by_cases h2 : a2 = b2 <;> by_cases h3 : a3 = b3 <;> by_cases h4 : a4 = b4 <;> simp [eqV, eqCells, cellEq, negIf, Rc.val, h1, h2, h3, h4]
theorem clip_in {a : Rc} (ha : a.ok) {R C : Int} (hs : scrOk R C = true) (hp : a.t > 0 ∧ a.r > 0 ∧ a.c > 0) : clipF a R C = a ↔ inF R C a = true := by
  obtain ⟨t, l, r, c⟩ := a
  obtain ⟨h1, h2, h3, h4⟩ := ha
  have hs := of_decide_eq_true hs
  unfold I64 at h1 h2 h3 h4
  simp only at h1 h2 h3 h4 hp
  unfold clipF inF
  rw [decide_eq_true_iff]
  simp only
  have ht : rspanF t r R = (if R ≤ t then (0, 0) else (t, max 0 (min R (t + r)))) := by
    unfold rspanF
    repeat' split
    all_goals first | rfl | (refine Prod.ext ?_ ?_ <;> simp only <;> omega)
  have hl : (rspanF l c C = (if C ≤ l then (0, 0) else (max 0 l, max 0 (min C (l + c))))) := by
    unfold rspanF
    repeat' split
    all_goals first | rfl | (refine Prod.ext ?_ ?_ <;> simp only <;> omega)
  rw [ht, hl]
  by_cases c1 : R ≤ t
  · rw [if_pos c1]
    simp only [Int.le_refl, true_or, if_true]
    constructor
    · intro h; cases h; omega
    · omega
  · rw [if_neg c1]
    by_cases c2 : C ≤ l
    · rw [if_pos c2]
      simp only [Int.le_refl, or_true, if_true]
      constructor
      · intro h; cases h; omega
      · omega
    · rw [if_neg c2]
      simp only
      split
      · constructor
        · intro h; cases h; omega
        · omega
      · constructor
        · intro h
          have z1 := congrArg Rc.t h
          have z2 := congrArg Rc.l h
          have z3 := congrArg Rc.r h
          have z4 := congrArg Rc.c h
          simp only at z1 z2 z3 z4
          have y2 : 0 ≤ l := by omega
          have y3 : t + r ≤ R := by omega
          have y4 : l + c ≤ C := by omega
          exact ⟨hs, by omega, y2, by omega, by omega, y3, y4⟩
        · intro h
          have y2 : max 0 l = l := by omega
          have y3 : max 0 (min R (t + r)) - t = r := by omega
          have y4 : max 0 (min C (l + c)) - max 0 l = c := by omega
          rw [y3, y4, y2]
theorem in1_W {M : Mem} (hM : M.base ≤ M.size) {R C : Int} {p0 p1 : Nat} (h0 : M.load1 p0 0 = some (.int .i64 R)) (h1 : M.load1 p1 0 = some (.int .i64 C)) (q : Q (.bool (scrOk R C)) M) :
    W funs known (.func (.func n_pane_Inside_1) #[] #[.pointer (some ⟨p0, 0, none⟩), .pointer (some ⟨p1, 0, none⟩)]) [] M Q := by
  refine pane_Inside_1_wp hM ⟨_, by simp only [opSem, ev, h0]; rfl, _, by simp only [opSem, ev, h1]; rfl, pscreen_W hM q⟩
theorem in2_W {M : Mem} (hM : M.base ≤ M.size) {a : Rc} {p : Value} (h : At M p a) (q : Q (.bool (decide (a.t > 0 ∧ a.r > 0 ∧ a.c > 0))) M) :
    W funs known (.func (.func n_pane_Inside_2) #[] #[p]) [] M Q := by
  obtain ⟨p0, e0, f0⟩ := h.field 0 (v := .int .i64 a.t) rfl M
  obtain ⟨p1, e1, f1⟩ := h.field 2 (v := .int .i64 a.r) rfl M
  obtain ⟨p2, e2, f2⟩ := h.field 3 (v := .int .i64 a.c) rfl M
  refine pane_Inside_2_wp hM ⟨p0, e0, _, f0, step_gtr (wpIf.dec (fun c1 => ⟨p1, e1, _, f1, step_gtr (wpIf.dec (fun c2 => ⟨p2, e2, _, f2, step_gtr ?_⟩) (fun c2 => ?_))⟩) (fun c1 => ?_))⟩
  all_goals refine q_of q ?_
  all_goals first | exact decide_eq_decide.2 (by omega) | exact decide_eq_false (by omega)
theorem in3_W {M : Mem} (hM : M.base ≤ M.size) {R C : Int} (hR : I64 R) (hC : I64 C) {a : Rc} (ha : a.ok) {p : Value} {p0 p1 : Nat} (h : At M p a) (h0 : M.load1 p0 0 = some (.int .i64 R)) (h1 : M.load1 p1 0 = some (.int .i64 C))
    (q : ∀ M', Ext M M' → Q (.bool (decide (clipF a R C = a))) M') :
    W funs known (.func (.func n_pane_Inside_3) #[] #[p, .pointer (some ⟨p0, 0, none⟩), .pointer (some ⟨p1, 0, none⟩)]) [] M Q := by
  refine pane_Inside_3_wp hM ⟨_, h.load, _, by simp only [opSem, ev, h0]; rfl, _, by simp only [opSem, ev, h1]; rfl, clip_W (freeze_ok M) ha hR hC fun M5 e5 => ?_⟩
  have e6 : Ext M (M5.thaw M.base) := Ext.thaw e5
  exact ⟨_, (h.ext e6).load, _, eql_rc _ _, q _ e6⟩
theorem load1_ext {M M' : Mem} (e : Ext M M') {b o : Nat} {v : Value} (h : M.load1 b o = some v) : M'.load1 b o = some v := by
  have : M'.get b = M.get b := by
    cases hg : M.get b with
    | none => unfold Mem.load1 at h; rw [hg] at h; cases h
    | some o => rw [← hg]; exact e.get b (Mem.lt_of_get hg)
  unfold Mem.load1 at h ⊢
  rw [this]; exact h
theorem in_W {M : Mem} (hM : M.base ≤ M.size) {a : Rc} (ha : a.ok) {R C : Int} (hR : I64 R) (hC : I64 C) (q : ∀ M', Ext M M' → Q (.bool (inF R C a)) M') : W funs known (.func (.func n_pane_Inside) #[] #[]) [.int .i64 R, .int .i64 C, a.val] M Q := by
  refine pane_Inside_wp hM ⟨rfl, fun b1 M2 hb1 hM2 => ⟨rfl, fun b3 M4 hb3 hM4 => ⟨rfl, fun b5 M6 hb5 hM6 => ?_⟩⟩⟩
  have s2 : M2.size = M.size + 1 := by rw [hM2]; rfl
  have s4 : M4.size = M2.size + 1 := by rw [hM4]; rfl
  have s6 : M6.size = M4.size + 1 := by rw [hM6]; rfl
  have e2 : Ext M2 M4 := Ext.push' hM4
  have e4 : Ext M4 M6 := Ext.push' hM6
  have e6 : Ext M M6 := ((Ext.push' hM2).trans e2).trans e4
  have k1 : M6.get b1 = some (.cells [.int .i64 R] 3 true) := (e2.trans e4).same (by rw [hM2, Mem.get_push, if_pos (by omega)])
  have k3 : M6.get b3 = some (.cells [.int .i64 C] 3 true) := e4.same (by rw [hM4, Mem.get_push, if_pos (by omega)])
  have k5 : M6.get b5 = some (.cells (Enc.enc a) 61 true) := by rw [hM6, Mem.get_push, if_pos (by omega)]; rfl
  clear hb1 hM2 hb3 hM4 hb5 hM6
  have g1 : M6.load1 b1 0 = some (.int .i64 R) := by simp [Mem.load1, k1]
  have g3 : M6.load1 b3 0 = some (.int .i64 C) := by simp [Mem.load1, k3]
  have g5 : At M6 (.pointer (some ⟨b5, 0, none⟩)) a := by
    refine ⟨_, _, rfl, ?_⟩
    simp only [Mem.loadN, k5]
    rfl
  refine ⟨.slice (some ⟨M6.size, 0, some 0⟩) 3 3, M6.push (.cells [.func (.func n_pane_Inside_1) #[] #[.pointer (some ⟨b1, 0, none⟩), .pointer (some ⟨b3, 0, none⟩)], .func (.func n_pane_Inside_2) #[] #[.pointer (some ⟨b5, 0, none⟩)], .func (.func n_pane_Inside_3) #[] #[.pointer (some ⟨b5, 0, none⟩), .pointer (some ⟨b1, 0, none⟩), .pointer (some ⟨b3, 0, none⟩)]] 29 true), rfl, (Ext.push _ _).keep _, ?_⟩
  have e8 : Ext M (M6.push (.cells [.func (.func n_pane_Inside_1) #[] #[.pointer (some ⟨b1, 0, none⟩), .pointer (some ⟨b3, 0, none⟩)], .func (.func n_pane_Inside_2) #[] #[.pointer (some ⟨b5, 0, none⟩)], .func (.func n_pane_Inside_3) #[] #[.pointer (some ⟨b5, 0, none⟩), .pointer (some ⟨b1, 0, none⟩), .pointer (some ⟨b3, 0, none⟩)]] 29 true)) := e6.trans (Ext.push _ _)
  have hS : Sl (M6.push (.cells [.func (.func n_pane_Inside_1) #[] #[.pointer (some ⟨b1, 0, none⟩), .pointer (some ⟨b3, 0, none⟩)], .func (.func n_pane_Inside_2) #[] #[.pointer (some ⟨b5, 0, none⟩)], .func (.func n_pane_Inside_3) #[] #[.pointer (some ⟨b5, 0, none⟩), .pointer (some ⟨b1, 0, none⟩), .pointer (some ⟨b3, 0, none⟩)]] 29 true)) (.slice (some ⟨M6.size, 0, some 0⟩) 3 3)
      [(⟨.func (.func n_pane_Inside_1) #[] #[.pointer (some ⟨b1, 0, none⟩), .pointer (some ⟨b3, 0, none⟩)]⟩ : Cl), ⟨.func (.func n_pane_Inside_2) #[] #[.pointer (some ⟨b5, 0, none⟩)]⟩, ⟨.func (.func n_pane_Inside_3) #[] #[.pointer (some ⟨b5, 0, none⟩), .pointer (some ⟨b1, 0, none⟩), .pointer (some ⟨b3, 0, none⟩)]⟩] := by
    refine ⟨_, _, rfl, Nat.le_refl _, .inr ⟨_, _, _, rfl, ?_, trivial⟩⟩
    simp only [Mem.loadN, Mem.get_push, if_true]
    rfl
  have e68 := Ext.push M6 (.cells [.func (.func n_pane_Inside_1) #[] #[.pointer (some ⟨b1, 0, none⟩), .pointer (some ⟨b3, 0, none⟩)], .func (.func n_pane_Inside_2) #[] #[.pointer (some ⟨b5, 0, none⟩)], .func (.func n_pane_Inside_3) #[] #[.pointer (some ⟨b5, 0, none⟩), .pointer (some ⟨b1, 0, none⟩), .pointer (some ⟨b3, 0, none⟩)]] 29 true)
  generalize M6.push _ = P at e8 hS e68 ⊢
  refine all_W (e8.ok hM) hS (B := fun i => if i = 0 then scrOk R C else if i = 1 then decide (a.t > 0 ∧ a.r > 0 ∧ a.c > 0) else decide (clipF a R C = a)) (by simp) ?_ ?_
  · intro i x hx M' Q' eM hB q'
    have hok := (e8.trans eM).ok hM
    match i, hx with
    | 0, hx => cases hx; exact in1_W hok (load1_ext (e68.trans eM) g1) (load1_ext (e68.trans eM) g3) (q' _ (Ext.refl _))
    | 1, hx => cases hx; exact in2_W hok (g5.ext (e68.trans eM)) (q' _ (Ext.refl _))
    | 2, hx => cases hx; exact in3_W hok hR hC ha (g5.ext (e68.trans eM)) (load1_ext (e68.trans eM) g1) (load1_ext (e68.trans eM) g3) q'
  · intro M' b eM hb
    refine ⟨eM.keep _, q_of (q M' (e8.trans eM)) ?_⟩
    apply Bool.eq_iff_iff.2
    rw [hb]
    constructor
    · intro h j hj
      have hd := of_decide_eq_true h
      have hs : scrOk R C = true := decide_eq_true hd.1
      have hp : a.t > 0 ∧ a.r > 0 ∧ a.c > 0 := by omega
      have hj' : j = 0 ∨ j = 1 ∨ j = 2 := by simp at hj; omega
      rcases hj' with rfl | rfl | rfl
      · exact hs
      · exact decide_eq_true hp
      · exact decide_eq_true ((clip_in ha hs hp).2 h)
    · intro h
      have hs : scrOk R C = true := h 0 (by simp)
      have hp : decide (a.t > 0 ∧ a.r > 0 ∧ a.c > 0) = true := h 1 (by simp)
      have hc : decide (clipF a R C = a) = true := h 2 (by simp)
      exact (clip_in ha hs (of_decide_eq_true hp)).1 (of_decide_eq_true hc)
theorem Sl.addrN {α : Type} [E : Enc α] {M : Mem} {v : Value} {L : List α} (h : Sl M v L) {i : Nat} {a : α} (hi : L[i]? = some a) {j : IntKind} (N : Mem) : ∃ p, opSem (.addrL E.k (.const v) (.const (.int j (i : Int)))) [] N = some (p, N) ∧ At M p a :=
  h.addr (by omega) (by rw [Int.toNat_natCast]; exact hi) N
abbrev apI (M : Mem) (L : List Rc) (v : Value) : Nat → LS → Prop := fun k s => ∃ (i : Nat) (M' : Mem), s = pane_Apart_l1_s v v (.int .i64 L.length) (.int .i64 i) [] M' ∧ Ext M M' ∧ i ≤ L.length ∧ (∀ (x y : Nat) (a b : Rc), L[x]? = some a → L[y]? = some b → y < x → x < i → meetF a b = false) ∧ k = L.length - i
abbrev apJ (M : Mem) (L : List Rc) (v v' : Value) (i : Nat) (b4 : Nat) (a : Rc) : Nat → LS → Prop := fun k s => ∃ (j : Nat) (M' : Mem), s = pane_Apart_l3_s v v (.int .i64 L.length) (.int .i64 i) v' (.int .i64 i) (.int .i64 j) b4 [.int .i64 a.t, .int .i64 a.l, .int .i64 a.r, .int .i64 a.c] [] M' ∧ Ext M M' ∧ j ≤ i ∧ (∀ (y : Nat) (b : Rc), L[y]? = some b → y < j → meetF a b = false) ∧ k = i - j
set_option maxHeartbeats 1000000 in
theorem papart_W {M : Mem} (hM : M.base ≤ M.size) {v : Value} {L : List Rc} (h : Sl M v L) (hok : ∀ a ∈ L, a.ok) (hL : L.length < 2 ^ 60)
    (q : ∀ M', Ext M M' → Q (.bool (apartF L)) M') : W funs known (.func (.func n_pane_Apart) #[] #[]) [v] M Q := by
  obtain ⟨ad, cap, rfl, hcap, hs⟩ := id h
  refine pane_Apart_wp hM (step_len ?_)
  refine ⟨pane_Apart_l1_m, apI M L (.slice ad L.length cap), ⟨L.length, 0, M, rfl, Ext.refl M, Nat.zero_le _, fun x y a b _ _ _ hx => absurd hx (by omega), rfl⟩, ?_⟩
  rintro k s ⟨i, M', rfl, eM, hi, hA, rfl⟩
  refine pane_Apart_l1_wp (I := apI M L (.slice ad L.length cap)) ?_
  refine step_lss (wpIf.dec (fun h1 => ?_) (fun h1 => ?_))
  rotate_left
  · refine blockK.hit (pane_Apart_c0_wp ?_)
    have : apartF L = true := apartF_iff.2 fun x y a b hx hy hlt => hA x y a b hx hy hlt (by have := (List.getElem?_eq_some_iff.1 hx).1; omega)
    exact this ▸ q M' eM
  · have hlt : i < L.length := by omega
    obtain ⟨a, ha⟩ : ∃ a, L[i]? = some a := ⟨_, List.getElem?_eq_getElem hlt⟩
    have hne : L ≠ [] := by rintro rfl; simp at hlt
    obtain ⟨p, hp, hat⟩ := (h.ext eM).addrN ha (j := .i64) M'
    refine ⟨p, hp, _, hat.load, rfl, fun b4 M5 hb4 hM5 => ⟨⟨rfl, rfl, by decide⟩, fun M6 hM6 => ?_⟩⟩
    have e5 : Ext M M5 := eM.trans (Ext.push' hM5)
    have s5 : M5.size = M'.size + 1 := by rw [hM5]; rfl
    have sM := eM.size
    have e6 : Ext M M6 := by rw [hM6]; exact e5.set (by omega) (by omega) _
    obtain ⟨v', hv', hsl⟩ := (h.ext e6).take (i := i) (by omega) hne (j := .i64) M6
    refine ⟨v', hv', ?_⟩
    have hlen : (L.take i).length = i := by rw [List.length_take]; omega
    obtain ⟨ad', cap', rfl, hcap', hs'⟩ := id hsl
    rw [hlen] at *
    refine step_len ?_
    refine ⟨pane_Apart_l3_m, apJ M6 L (.slice ad L.length cap) (.slice ad' i cap') i b4 a, ⟨i, 0, M6, rfl, Ext.refl _, Nat.zero_le _, fun y b _ hy => absurd hy (by omega), rfl⟩, ?_⟩
    rintro k s ⟨j, M₂, rfl, e62, hj, hB, rfl⟩
    have eM2 : Ext M M₂ := e6.trans e62
    refine pane_Apart_l3_wp (I := apJ M6 L (.slice ad L.length cap) (.slice ad' i cap') i b4 a) ?_
    refine step_lss (wpIf.dec (fun h2 => ?_) (fun h2 => ?_))
    rotate_left
    · -- none of them meets it
      refine blockK.hit (pane_Apart_c2_wp (ar := none) (step_add (by omega) (by omega) ?_))
      refine ⟨L.length - (i + 1), by omega, i + 1, M₂, rfl, eM2, by omega, fun x y c d hx hy hlt hxi => ?_, rfl⟩
      rcases Nat.lt_or_eq_of_le (Nat.le_of_lt_succ hxi) with h3 | rfl
      · exact hA x y c d hx hy hlt h3
      · rw [ha] at hx
        cases hx
        exact hB y d hy (by omega)
    · have hjl : j < i := by omega
      obtain ⟨b, hb⟩ : ∃ b, L[j]? = some b := ⟨_, List.getElem?_eq_getElem (by omega)⟩
      have hb' : (L.take i)[j]? = some b := by rw [List.getElem?_take, if_pos hjl]; exact hb
      have hsl2 : Sl M₂ (.slice ad' i cap') (L.take i) := hsl.ext e62
      obtain ⟨p', hp', hat'⟩ := hsl2.addrN hb' (j := .i64) M₂
      refine ⟨p', hp', _, hat'.load, rfl, fun b7 M8 hb7 hM8 => ⟨⟨rfl, rfl, by decide⟩, fun M9 hM9 => ?_⟩⟩
      have e8 : Ext M M8 := eM2.trans (Ext.push' hM8)
      have s8 : M8.size = M₂.size + 1 := by rw [hM8]; rfl
      have sM2 := eM2.size
      have e9 : Ext M M9 := by rw [hM9]; exact e8.set (by omega) (by omega) _
      have s62 := e62.size
      have e69 : Ext M6 M9 := by rw [hM9]; exact (e62.trans (Ext.push' hM8)).set (by omega) (by omega) _
      obtain ⟨a1, a2, a3, a4⟩ := hok a (List.mem_of_getElem? ha)
      obtain ⟨d1, d2, d3, d4⟩ := hok b (List.mem_of_getElem? hb)
      refine LGet.mk (v := .int .i64 a.t) rfl (LGet.mk (v := .int .i64 a.r) rfl (LGet.mk (v := .int .i64 b.t) rfl (LGet.mk (v := .int .i64 b.r) rfl ?_)))
      refine span_W (e9.ok hM) a1 a3 d1 d3 ⟨KeepB.refl _ _, wpIf.mk (fun t1 => ?_) (fun t1 => ?_)⟩
      · refine LGet.mk (v := .int .i64 a.l) rfl (LGet.mk (v := .int .i64 a.c) rfl (LGet.mk (v := .int .i64 b.l) rfl (LGet.mk (v := .int .i64 b.c) rfl ?_)))
        refine span_W (e9.ok hM) a2 a4 d2 d4 ⟨KeepB.refl _ _, wpIf.mk (fun t2 => ?_) (fun t2 => ?_)⟩
        · -- they meet
          have : apartF L = false := by
            apply Bool.eq_false_iff.2
            intro hc
            have := apartF_iff.1 hc i j a b ha hb hjl
            unfold meetF at this
            rw [t1, t2] at this
            cases this
          exact (this ▸ q M9 e9)
        · refine step_add (by omega) (by omega) ⟨i - (j + 1), by omega, j + 1, M9, rfl, e69, by omega, fun y d hy hyj => ?_, rfl⟩
          rcases Nat.lt_or_eq_of_le (Nat.le_of_lt_succ hyj) with h3 | rfl
          · exact hB y d hy h3
          · rw [hb] at hy
            cases hy
            unfold meetF
            rw [t1, t2]; rfl
      · refine step_add (by omega) (by omega) ⟨i - (j + 1), by omega, j + 1, M9, rfl, e69, by omega, fun y d hy hyj => ?_, rfl⟩
        rcases Nat.lt_or_eq_of_le (Nat.le_of_lt_succ hyj) with h3 | rfl
        · exact hB y d hy h3
        · rw [hb] at hy
          cases hy
          unfold meetF
          rw [t1]; rfl
abbrev ckI (M : Mem) (R C : Int) (L : List Rc) (v : Value) : Nat → LS → Prop := fun k s => ∃ (i : Nat) (M' : Mem), s = pane_Check_l1_s (.int .i64 R) (.int .i64 C) v v (.int .i64 L.length) (.int .i64 i) [] M' ∧ Ext M M' ∧ i ≤ L.length ∧ (∀ (x : Nat) (a : Rc), L[x]? = some a → x < i → inF R C a = true) ∧ k = L.length - i
theorem all_of {L : List Rc} {P : Rc → Bool} (h : ∀ (x : Nat) (a : Rc), L[x]? = some a → P a = true) : L.all P = true := by
  rw [List.all_eq_true]
  intro a ha
  obtain ⟨x, hx⟩ := List.mem_iff_getElem?.1 ha
  exact h x a hx
theorem not_all_of {L : List Rc} {P : Rc → Bool} {x : Nat} {a : Rc} (hx : L[x]? = some a) (h : P a = false) : L.all P = false := by
  apply Bool.eq_false_iff.2
  intro hc
  rw [List.all_eq_true] at hc
  rw [hc a (List.mem_of_getElem? hx)] at h
  cases h
theorem num_of {x y : Int} {M : Mem} (q : Q (.int .i64 x) M) (h : x = y) : Q (.int .i64 y) M := h ▸ q
set_option maxHeartbeats 1000000 in
theorem pcheck_W {M : Mem} (hM : M.base ≤ M.size) {v : Value} {L : List Rc} (h : Sl M v L) (hok : ∀ a ∈ L, a.ok) (hL : L.length < 2 ^ 60) {R C : Int} (hR : I64 R) (hC : I64 C)
    (q : ∀ M', Ext M M' → Q (.int .i64 (checkF R C L)) M') : W funs known (.func (.func n_pane_Check) #[] #[]) [.int .i64 R, .int .i64 C, v] M Q := by
  obtain ⟨ad, cap, rfl, hcap, hs⟩ := id h
  refine pane_Check_wp hM (pscreen_W hM (step_not (wpIf.not (fun hb => ?_) (fun hb => step_len ?_))))
  · exact num_of (q M (Ext.refl M)) (by unfold checkF; rw [hb]; rfl)
  refine ⟨pane_Check_l1_m, ckI M R C L (.slice ad L.length cap), ⟨L.length, 0, M, rfl, Ext.refl M, Nat.zero_le _, fun x a _ hx => absurd hx (by omega), rfl⟩, ?_⟩
  rintro k s ⟨i, M', rfl, eM, hi, hA, rfl⟩
  refine pane_Check_l1_wp (I := ckI M R C L (.slice ad L.length cap)) ?_
  refine step_lss (wpIf.dec (fun h1 => ?_) (fun h1 => ?_))
  rotate_left
  · have hall : L.all (inF R C) = true := all_of fun x a hx => hA x a hx (by have := (List.getElem?_eq_some_iff.1 hx).1; omega)
    refine blockK.hit (pane_Check_c0_wp (papart_W (eM.ok hM) (h.ext eM) hok hL fun M2 e2 => step_not (wpIf.not (fun hb' => ?_) (fun hb' => ?_))))
    · exact num_of (q M2 (eM.trans e2)) (by unfold checkF; rw [hb, hall, hb']; rfl)
    · exact num_of (q M2 (eM.trans e2)) (by unfold checkF; rw [hb, hall, hb']; rfl)
  · have hlt : i < L.length := by omega
    obtain ⟨a, ha⟩ : ∃ a, L[i]? = some a := ⟨_, List.getElem?_eq_getElem hlt⟩
    obtain ⟨p, hp, hat⟩ := (h.ext eM).addrN ha (j := .i64) M'
    refine ⟨p, hp, _, hat.load, rfl, fun b4 M5 hb4 hM5 => ⟨⟨rfl, rfl, by decide⟩, fun M6 hM6 => ?_⟩⟩
    have e5 : Ext M M5 := eM.trans (Ext.push' hM5)
    have s5 : M5.size = M'.size + 1 := by rw [hM5]; rfl
    have sM := eM.size
    have e6 : Ext M M6 := by rw [hM6]; exact e5.set (by omega) (by omega) _
    refine LGetN.as a.val (by exact Nat.le_refl 4) rfl ?_
    refine in_W (e6.ok hM) (hok a (List.mem_of_getElem? ha)) hR hC fun M9 e9 => ⟨e9.keep _, step_not (wpIf.not (fun hb' => ?_) (fun hb' => ?_))⟩
    · have : checkF R C L = 8 := by unfold checkF; rw [hb, not_all_of ha hb']; rfl
      exact (this ▸ q M9 (e6.trans e9))
    · refine step_add (by omega) (by omega) ⟨L.length - (i + 1), by omega, i + 1, M9, rfl, e6.trans e9, by omega, fun x c hx hxi => ?_, rfl⟩
      rcases Nat.lt_or_eq_of_le (Nat.le_of_lt_succ hxi) with h3 | rfl
      · exact hA x c hx h3
      · rw [ha] at hx
        cases hx
        exact hb'
def locF (a : Rc) (i k : Int) : Ps := if hasF a i k then (i - a.t, k - a.l) else (0, 0)
theorem local_W (hM : M.base ≤ M.size) {a : Rc} (ha : a.ok) {i k : Int} (hi : 0 ≤ i ∧ i < 512) (hk : 0 ≤ k ∧ k < 512) (q : ∀ M', Ext M M' → Q (.tuple #[posV (locF a i k), .bool (hasF a i k)]) M') : W funs known (.func (.func n_pane_Local) #[] #[]) [a.val, posV (i, k)] M Q := by
  obtain ⟨a1, a2, a3, a4⟩ := id ha
  unfold I64 at a1 a2 a3 a4
  refine pane_Local_wp hM ⟨rfl, fun b1 M2 hb1 hM2 => ⟨rfl, fun b3 M4 hb3 hM4 => ⟨rfl, fun b5 M6 hb5 hM6 => ?_⟩⟩⟩
  have s2 : M2.size = M.size + 1 := by rw [hM2]; rfl
  have s4 : M4.size = M2.size + 1 := by rw [hM4]; rfl
  have s6 : M6.size = M4.size + 1 := by rw [hM6]; rfl
  have e6 : Ext M M6 := ((Ext.push' hM2).trans (Ext.push' hM4)).trans (Ext.push' hM6)
  have e7 : ∀ o, Ext M (M6.set b5 o) := fun o => e6.set (by omega) (by omega) _
  have no : hasF a i k = false → ∀ o, Q (.tuple #[posV (0, 0), .bool false]) (M6.set b5 o) := fun h o => by
    have := q _ (e7 o)
    rw [h] at this
    unfold locF at this
    rw [h] at this
    exact this
  have k6 := e6.ok hM
  refine span_W k6 a1 a3 ⟨by omega, by omega⟩ ⟨by omega, by omega⟩ ⟨KeepB.refl _ _, _, rfl, ?_⟩
  by_cases h1 : spanF a.t a.r i 1 = true
  rotate_left
  · have h1' : spanF a.t a.r i 1 = false := by simpa using h1
    rw [h1']
    refine wpIf.tt ⟨posV (0, 0), rfl, ⟨rfl, rfl, by decide⟩, fun M11 hM11 => LGetN.as (posV (0, 0)) (by exact Nat.le_refl 2) rfl (hM11 ▸ no ?_ _)⟩
    have := of_decide_eq_false h1'
    exact decide_eq_false (by omega)
  have d1 := of_decide_eq_true h1
  rw [h1]
  refine wpIf.ff (s_ltF (by omega) (wpIf.ff (span_W k6 a2 a4 ⟨by omega, by omega⟩ ⟨by omega, by omega⟩ ⟨KeepB.refl _ _, _, rfl, ?_⟩)))
  by_cases h2 : spanF a.l a.c k 1 = true
  rotate_left
  · have h2' : spanF a.l a.c k 1 = false := by simpa using h2
    rw [h2']
    refine wpIf.tt ⟨posV (0, 0), rfl, ⟨rfl, rfl, by decide⟩, fun M11 hM11 => LGetN.as (posV (0, 0)) (by exact Nat.le_refl 2) rfl (hM11 ▸ no ?_ _)⟩
    have := of_decide_eq_false h2'
    exact decide_eq_false (by omega)
  have d2 := of_decide_eq_true h2
  rw [h2]
  have hh : hasF a i k = true := decide_eq_true (by omega)
  refine wpIf.ff (s_ltF (by omega) (wpIf.ff (step_sub (by omega) (by omega) (step_sub (by omega) (by omega) ⟨posV (i - a.t, k - a.l), rfl, ⟨rfl, rfl, by decide⟩, fun M30 hM30 => LGetN.as (posV (i - a.t, k - a.l)) (by exact Nat.le_refl 2) rfl ?_⟩))))
  have := q _ (e7 (.cells (splice [.int .i64 0, .int .i64 0] 0 (Value.cells (posV (i - a.t, k - a.l))).toList) 44 true))
  rw [hh] at this
  unfold locF at this
  rw [hh] at this
  rw [hM30]
  exact this
def AtIs (L : List Rc) (i k n : Int) : Prop := (n = -1 ∧ ∀ a ∈ L, hasF a i k = false) ∨ ∃ (j : Nat) (a : Rc), n = j ∧ L[j]? = some a ∧ hasF a i k = true ∧ ∀ (x : Nat) (b : Rc), L[x]? = some b → x < j → hasF b i k = false
abbrev atI (P : Mem) (L : List Rc) (v : Value) (b1 : Nat) (i k : Int) : Nat → LS → Prop := fun m s => ∃ (j : Nat) (M' : Mem), s = pane_At_l1_s v (.int .i64 L.length) (.int .i64 j) b1 (.int .i64 i) (.int .i64 k) [] M' ∧ Ext P M' ∧ j ≤ L.length ∧ (∀ (x : Nat) (b : Rc), L[x]? = some b → x < j → hasF b i k = false) ∧ m = L.length - j
theorem at_W (hM : M.base ≤ M.size) {v : Value} {L : List Rc} (h : Sl M v L) (hok : ∀ a ∈ L, a.ok) (hL : L.length < 2 ^ 60) {i k : Int} (hi : 0 ≤ i ∧ i < 512) (hk : 0 ≤ k ∧ k < 512) (q : ∀ M' n, Ext M M' → AtIs L i k n → Q (.int .i64 n) M') : W funs known (.func (.func n_pane_At) #[] #[]) [posV (i, k), v] M Q := by
  obtain ⟨ad, cap, rfl⟩ := h.shape
  refine pane_At_wp hM ⟨rfl, fun b1 P hb1 hP => step_len ?_⟩
  have eP : Ext M P := Ext.push' hP
  have sP : P.size = M.size + 1 := by rw [hP]; rfl
  have kP := eP.ok hM
  refine ⟨pane_At_l1_m, atI P L (.slice ad L.length cap) b1 i k, ⟨L.length, 0, P, rfl, Ext.refl _, Nat.zero_le _, fun _ _ _ h => absurd h (by omega), rfl⟩, ?_⟩
  rintro m s ⟨j, M', rfl, eM, hj, hA, rfl⟩
  refine pane_At_l1_wp (I := atI P L (.slice ad L.length cap) b1 i k) ?_
  refine step_lss (wpIf.dec (fun h1 => ?_) (fun h1 => ?_))
  · obtain ⟨a, ha⟩ : ∃ a, L[j]? = some a := ⟨_, List.getElem?_eq_getElem (by omega)⟩
    refine rd (h.ext (eP.trans eM)) (by omega) (by rw [Int.toNat_natCast]; exact ha) fun _ => ⟨rfl, fun b4 M5 hb4 hM5 => ⟨⟨rfl, rfl, by decide⟩, fun M6 hM6 => ?_⟩⟩
    have f5 : Ext M' M5 := Ext.push' hM5
    have s5 : M5.size = M'.size + 1 := by rw [hM5]; rfl
    have f6 : Ext M' M6 := hM6 ▸ f5.set (by omega) (by omega) _
    refine LGetN.as a.val (by exact Nat.le_refl 4) rfl (local_W (f6.ok (eM.ok kP)) (hok a (List.mem_of_getElem? ha)) hi hk fun M9 f9 => ⟨f9.keep _, _, rfl, _, rfl, rfl, fun b12 M13 hb12 hM13 => ⟨⟨rfl, rfl, by decide⟩, fun M14 hM14 => ?_⟩⟩)
    have f69 := f6.trans f9
    have f13 : Ext M' M13 := f69.trans (Ext.push' hM13)
    have s9 := f69.size
    have s13 : M13.size = M9.size + 1 := by rw [hM13]; rfl
    have f14 : Ext M' M14 := hM14 ▸ f13.set (by omega) (by omega) _
    refine wpIf.mk (fun g => ?_) (fun g => ?_)
    · exact q M14 j (eP.trans (eM.trans f14)) (.inr ⟨j, a, rfl, ha, g, hA⟩)
    · refine step_add (by omega) (by omega) ⟨L.length - (j + 1), by omega, j + 1, M14, rfl, eM.trans f14, by omega, fun x b hx hxj => ?_, rfl⟩
      rcases Nat.lt_or_eq_of_le (Nat.le_of_lt_succ hxj) with h3 | rfl
      · exact hA x b hx h3
      · rw [ha] at hx; cases hx; exact g
  · refine pane_At_l1_out (pane_At_c0_wp (q M' (-1) (eP.trans eM) (.inl ⟨rfl, fun a ha => ?_⟩)))
    obtain ⟨x, hx⟩ := List.mem_iff_getElem?.1 ha
    exact hA x a hx (by have := (List.getElem?_eq_some_iff.1 hx).1; omega)
end
end Go.Proofs.Ytkelbhcaecojkaa.Run
