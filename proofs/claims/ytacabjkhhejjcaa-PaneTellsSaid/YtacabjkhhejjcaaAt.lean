/- What Local and At of chapter 26 tell; how many places panes have, and how many are free. -/
import Derived.Test.YtacabjkhhejjcaaStripes
import Derived.Test.YtacabjkhhejjcaaPaneE
namespace Go.Proofs.Ytacabjkhhejjcaa.Run
open Go Go.RowKit
set_option linter.unusedVariables false
set_option linter.unusedSimpArgs false

def locF (a : Rc) (i k : Int) : Ps := if hasF a i k then (i - a.t, k - a.l) else (0, 0)
section
variable {M : Mem} {Q : Value → Mem → Prop}
theorem local_W (hM : M.base ≤ M.size) {a : Rc} (ha : a.ok) {i k : Int} (hi : 0 ≤ i ∧ i < 512) (hk : 0 ≤ k ∧ k < 512) (q : ∀ M', Ext M M' → Q (.tuple #[posV (locF a i k), .bool (hasF a i k)]) M') : W funs known (.func (.func n_pane_Local) #[] #[]) [a.val, posV (i, k)] M Q := by
  obtain ⟨a1, a2, a3, a4⟩ := id ha
  unfold I64 at a1 a2 a3 a4
  refine pane_Local_wp hM ⟨rfl, fun b1 M2 hb1 hM2 => ⟨rfl, fun b3 M4 hb3 hM4 => ⟨rfl, fun b5 M6 hb5 hM6 => ?_⟩⟩⟩
  have s2 : M2.size = M.size + 1 := by rw [hM2]; rfl
  have s4 : M4.size = M2.size + 1 := by rw [hM4]; rfl
  have s6 : M6.size = M4.size + 1 := by rw [hM6]; rfl
  have e6 : Ext M M6 := ((Ext.push' hM2).trans (Ext.push' hM4)).trans (Ext.push' hM6)
  have e7 : ∀ o, Ext M (M6.set b5 o) := fun o => e6.set (by omega) (by omega) _
  have no : hasF a i k = false → ∀ o, Q (.tuple #[posV (0, 0), .bool false]) (M6.set b5 o) := fun h o => by
    have := q _ (e7 o)
    rw [h] at this
    unfold locF at this
    rw [h] at this
    exact this
  have k6 := e6.ok hM
  refine span_W k6 a1 a3 ⟨by omega, by omega⟩ ⟨by omega, by omega⟩ ⟨KeepB.refl _ _, _, rfl, ?_⟩
  by_cases h1 : spanF a.t a.r i 1 = true
  rotate_left
  · have h1' : spanF a.t a.r i 1 = false := by simpa using h1
    rw [h1']
    refine wpIf.tt ⟨posV (0, 0), rfl, ⟨rfl, rfl, by decide⟩, fun M11 hM11 => LGetN.as (posV (0, 0)) (by exact Nat.le_refl 2) rfl (hM11 ▸ no ?_ _)⟩
    have := of_decide_eq_false h1'
    exact decide_eq_false (by omega)
  have d1 := of_decide_eq_true h1
  rw [h1]
  refine wpIf.ff (s_ltF (by omega) (wpIf.ff (span_W k6 a2 a4 ⟨by omega, by omega⟩ ⟨by omega, by omega⟩ ⟨KeepB.refl _ _, _, rfl, ?_⟩)))
  by_cases h2 : spanF a.l a.c k 1 = true
  rotate_left
  · have h2' : spanF a.l a.c k 1 = false := by simpa using h2
    rw [h2']
    refine wpIf.tt ⟨posV (0, 0), rfl, ⟨rfl, rfl, by decide⟩, fun M11 hM11 => LGetN.as (posV (0, 0)) (by exact Nat.le_refl 2) rfl (hM11 ▸ no ?_ _)⟩
    have := of_decide_eq_false h2'
    exact decide_eq_false (by omega)
  have d2 := of_decide_eq_true h2
  rw [h2]
  have hh : hasF a i k = true := decide_eq_true (by omega)
  refine wpIf.ff (s_ltF (by omega) (wpIf.ff (step_sub (by omega) (by omega) (step_sub (by omega) (by omega) ⟨posV (i - a.t, k - a.l), rfl, ⟨rfl, rfl, by decide⟩, fun M30 hM30 => LGetN.as (posV (i - a.t, k - a.l)) (by exact Nat.le_refl 2) rfl ?_⟩))))
  have := q _ (e7 (.cells (splice [.int .i64 0, .int .i64 0] 0 (Value.cells (posV (i - a.t, k - a.l))).toList) 42 true))
  rw [hh] at this
  unfold locF at this
  rw [hh] at this
  rw [hM30]
  exact this

/-- which one has a place -/
def AtIs (L : List Rc) (i k n : Int) : Prop := (n = -1 ∧ ∀ a ∈ L, hasF a i k = false) ∨ ∃ (j : Nat) (a : Rc), n = j ∧ L[j]? = some a ∧ hasF a i k = true ∧ ∀ (x : Nat) (b : Rc), L[x]? = some b → x < j → hasF b i k = false
abbrev atI (P : Mem) (L : List Rc) (v : Value) (b1 : Nat) (i k : Int) : Nat → LS → Prop := fun m s => ∃ (j : Nat) (M' : Mem), s = pane_At_l1_s v (.int .i64 L.length) (.int .i64 j) b1 (.int .i64 i) (.int .i64 k) [] M' ∧ Ext P M' ∧ j ≤ L.length ∧ (∀ (x : Nat) (b : Rc), L[x]? = some b → x < j → hasF b i k = false) ∧ m = L.length - j
theorem at_W (hM : M.base ≤ M.size) {v : Value} {L : List Rc} (h : Sl M v L) (hok : ∀ a ∈ L, a.ok) (hL : L.length < 2 ^ 60) {i k : Int} (hi : 0 ≤ i ∧ i < 512) (hk : 0 ≤ k ∧ k < 512) (q : ∀ M' n, Ext M M' → AtIs L i k n → Q (.int .i64 n) M') : W funs known (.func (.func n_pane_At) #[] #[]) [posV (i, k), v] M Q := by
  obtain ⟨ad, cap, rfl⟩ := h.shape
  refine pane_At_wp hM ⟨rfl, fun b1 P hb1 hP => step_len ?_⟩
  have eP : Ext M P := Ext.push' hP
  have sP : P.size = M.size + 1 := by rw [hP]; rfl
  have kP := eP.ok hM
  refine ⟨pane_At_l1_m, atI P L (.slice ad L.length cap) b1 i k, ⟨L.length, 0, P, rfl, Ext.refl _, Nat.zero_le _, fun _ _ _ h => absurd h (by omega), rfl⟩, ?_⟩
  rintro m s ⟨j, M', rfl, eM, hj, hA, rfl⟩
  refine pane_At_l1_wp (I := atI P L (.slice ad L.length cap) b1 i k) ?_
  refine step_lss (wpIf.dec (fun h1 => ?_) (fun h1 => ?_))
  · obtain ⟨a, ha⟩ : ∃ a, L[j]? = some a := ⟨_, List.getElem?_eq_getElem (by omega)⟩
    refine rd (h.ext (eP.trans eM)) (by omega) (by rw [Int.toNat_natCast]; exact ha) fun _ => ⟨rfl, fun b4 M5 hb4 hM5 => ⟨⟨rfl, rfl, by decide⟩, fun M6 hM6 => ?_⟩⟩
    have f5 : Ext M' M5 := Ext.push' hM5
    have s5 : M5.size = M'.size + 1 := by rw [hM5]; rfl
    have f6 : Ext M' M6 := hM6 ▸ f5.set (by omega) (by omega) _
    refine LGetN.as a.val (by exact Nat.le_refl 4) rfl (local_W (f6.ok (eM.ok kP)) (hok a (List.mem_of_getElem? ha)) hi hk fun M9 f9 => ⟨f9.keep _, _, rfl, _, rfl, rfl, fun b12 M13 hb12 hM13 => ⟨⟨rfl, rfl, by decide⟩, fun M14 hM14 => ?_⟩⟩)
    have f69 := f6.trans f9
    have f13 : Ext M' M13 := f69.trans (Ext.push' hM13)
    have s9 := f69.size
    have s13 : M13.size = M9.size + 1 := by rw [hM13]; rfl
    have f14 : Ext M' M14 := hM14 ▸ f13.set (by omega) (by omega) _
    refine wpIf.mk (fun g => ?_) (fun g => ?_)
    · exact q M14 j (eP.trans (eM.trans f14)) (.inr ⟨j, a, rfl, ha, g, hA⟩)
    · refine step_add (by omega) (by omega) ⟨L.length - (j + 1), by omega, j + 1, M14, rfl, eM.trans f14, by omega, fun x b hx hxj => ?_, rfl⟩
      rcases Nat.lt_or_eq_of_le (Nat.le_of_lt_succ hxj) with h3 | rfl
      · exact hA x b hx h3
      · rw [ha] at hx; cases hx; exact g
  · refine pane_At_l1_out (pane_At_c0_wp (q M' (-1) (eP.trans eM) (.inl ⟨rfl, fun a ha => ?_⟩)))
    obtain ⟨x, hx⟩ := List.mem_iff_getElem?.1 ha
    exact hA x a hx (by have := (List.getElem?_eq_some_iff.1 hx).1; omega)
end

/-! ### Places, counted -/

theorem has_hasC {a : Rc} (h : 1 ≤ a.r ∧ 1 ≤ a.c) {p : Ps} : hasF a p.1 p.2 = true ↔ hasC a p := by
  unfold hasF hasC
  rw [decide_eq_true_iff]
  omega
theorem meet_of_has {a b : Rc} {i k : Int} (ha : hasF a i k = true) (hb : hasF b i k = true) : meetF a b = true := by
  have h1 := of_decide_eq_true ha
  have h2 := of_decide_eq_true hb
  unfold meetF spanF
  rw [Bool.and_eq_true]
  exact ⟨decide_eq_true (by omega), decide_eq_true (by omega)⟩
theorem apart_uniq {L : List Rc} (h : apartF L = true) {x y : Nat} {a b : Rc} {i k : Int} (hx : L[x]? = some a) (hy : L[y]? = some b) (ha : hasF a i k = true) (hb : hasF b i k = true) : x = y := by
  have hm := apartF_iff.1 h
  rcases Nat.lt_trichotomy x y with h1 | h1 | h1
  · have := hm y x b a hy hx h1
    rw [meet_of_has hb ha] at this; cases this
  · exact h1
  · have := hm x y a b hx hy h1
    rw [meet_of_has ha hb] at this; cases this
theorem count_rect {a : Rc} (h : 1 ≤ a.r ∧ 1 ≤ a.c) {T : List Ps} (hn : T.Nodup) (hm : ∀ p : Ps, p ∈ T ↔ hasC a p) : (T.length : Int) = a.r * a.c := by
  have h1 : (T.map fun p => ((p.1 - a.t + 1, p.2 - a.l) : Ps)).Nodup := by
    refine List.Pairwise.map _ ?_ hn
    intro x y hxy e
    simp only [Prod.mk.injEq] at e
    apply hxy
    obtain ⟨x1, x2⟩ := x
    obtain ⟨y1, y2⟩ := y
    simp only [Prod.mk.injEq] at *
    omega
  have h2 := count_all (R := a.r + 1) (C := a.c) (by omega) (by omega) h1 fun p => by
    simp only [List.mem_map]
    constructor
    · rintro ⟨x, hx, rfl⟩
      have := (hm x).1 hx
      unfold hasC at this
      simp only
      omega
    · rintro ⟨⟨h1, h2⟩, h3, h4⟩
      refine ⟨(p.1 - 1 + a.t, p.2 + a.l), (hm _).2 ?_, ?_⟩
      · unfold hasC; simp only; omega
      · obtain ⟨p1, p2⟩ := p
        simp only [Prod.mk.injEq]
        omega
  rw [List.length_map] at h2
  rw [h2, show a.r + 1 - 1 = a.r by omega]
def sumRC (L : List Rc) : Int := (L.map fun a => a.r * a.c).sum
theorem sum_cons (a : Rc) (L : List Rc) : sumRC (a :: L) = a.r * a.c + sumRC L := by simp [sumRC]
theorem countP_or {T : List Ps} {p q : Ps → Bool} (h : ∀ x ∈ T, ¬ (p x = true ∧ q x = true)) : T.countP (fun x => p x || q x) = T.countP p + T.countP q := by
  induction T with
  | nil => rfl
  | cons x T ih =>
    have ih := ih fun y hy => h y (List.mem_cons_of_mem _ hy)
    have hx := h x List.mem_cons_self
    simp only [List.countP_cons, ih]
    cases hp : p x <;> cases hq : q x <;> simp_all <;> omega
theorem sum_count {R C : Int} (T : List Ps) (hn : T.Nodup) : ∀ (G : List Rc), (∀ a ∈ G, 1 ≤ a.r ∧ 1 ≤ a.c) → (∀ a ∈ G, ∀ p, hasC a p → p ∈ T) → (G.Pairwise fun x y => meetF y x = false) → ((T.countP fun p => G.any fun a => hasF a p.1 p.2 : Nat) : Int) = sumRC G
  | [], _, _, _ => by simp [sumRC]
  | a :: G, h1, h2, h3 => by
    rw [List.pairwise_cons] at h3
    have ih := sum_count (R := R) (C := C) T hn G (fun b hb => h1 b (List.mem_cons_of_mem _ hb)) (fun b hb => h2 b (List.mem_cons_of_mem _ hb)) h3.2
    have hor := countP_or (T := T) (p := fun p => hasF a p.1 p.2) (q := fun p => G.any fun b => hasF b p.1 p.2) fun x _ ⟨e1, e2⟩ => by
      obtain ⟨b, hb, e3⟩ := List.any_eq_true.1 e2
      have := h3.1 b hb
      rw [meet_of_has e3 e1] at this; cases this
    have ha := h1 a List.mem_cons_self
    have hone : ((T.countP fun p => hasF a p.1 p.2 : Nat) : Int) = a.r * a.c := by
      rw [List.countP_eq_length_filter]
      refine count_rect ha (hn.filter _) fun p => ?_
      rw [List.mem_filter]
      constructor
      · rintro ⟨_, e⟩
        exact (has_hasC ha).1 e
      · intro e
        exact ⟨h2 a List.mem_cons_self p e, (has_hasC ha).2 e⟩
    rw [sum_cons, ← ih, ← hone]
    simp only [List.any_cons]
    rw [hor]
    omega
theorem clip_same {R C : Int} {a : Rc} (hs : screenF R C = true) (h : inF R C a = true) : clipF a R C = a := by
  have h1 := of_decide_eq_true h
  have hok : a.ok := by unfold Rc.ok I64; omega
  exact (clip_in hok hs ⟨by omega, by omega, by omega⟩).2 h
theorem taken_sum {R C : Int} {G : List Rc} (hs : screenF R C = true) (hin : ∀ a ∈ G, inF R C a = true) (hap : apartF G = true) {T : List Ps} (hT : TakenBy R C G T) : (T.length : Int) = sumRC G := by
  have h1 : ∀ a ∈ G, 1 ≤ a.r ∧ 1 ≤ a.c := fun a ha => by have := of_decide_eq_true (hin a ha); omega
  rw [← sum_count (R := R) (C := C) T hT.1 G h1 (fun a ha p hp => (hT.2 p).2 ⟨by have := of_decide_eq_true (hin a ha); unfold hasC at hp; omega, a, ha, by rw [clip_same hs (hin a ha)]; exact hp⟩) (of_decide_eq_true hap)]
  congr 1
  symm
  rw [List.countP_eq_length]
  intro p hp
  obtain ⟨_, a, ha, hc⟩ := (hT.2 p).1 hp
  rw [clip_same hs (hin a ha)] at hc
  exact List.any_eq_true.2 ⟨a, ha, (has_hasC (h1 a ha)).2 hc⟩
/-- free places ahead of (i, k) -/
def FreeTo (R C : Int) (G : List Rc) (i k : Int) (U : List Ps) : Prop := U.Nodup ∧ ∀ p : Ps, p ∈ U ↔ ((1 ≤ p.1 ∧ p.1 < R) ∧ 0 ≤ p.2 ∧ p.2 < C) ∧ (∀ a ∈ G, hasF a p.1 p.2 = false) ∧ (p.1 < i ∨ (p.1 = i ∧ p.2 < k))
theorem free_sum {R C : Int} {G : List Rc} (hs : screenF R C = true) (hin : ∀ a ∈ G, inF R C a = true) {T U : List Ps} (hT : TakenBy R C G T) (hU : FreeTo R C G R 0 U) : (T.length : Int) + U.length = (R - 1) * C := by
  have hRC : 2 ≤ R ∧ R ≤ 512 ∧ 1 ≤ C ∧ C ≤ 512 := of_decide_eq_true hs
  have h1 : ∀ a ∈ G, 1 ≤ a.r ∧ 1 ≤ a.c := fun a ha => by have := of_decide_eq_true (hin a ha); omega
  have hin' : ∀ p : Ps, p ∈ T ↔ ∃ a ∈ G, hasF a p.1 p.2 = true := fun p => by
    rw [hT.2]
    constructor
    · rintro ⟨_, a, ha, hc⟩
      rw [clip_same hs (hin a ha)] at hc
      exact ⟨a, ha, (has_hasC (h1 a ha)).2 hc⟩
    · rintro ⟨a, ha, hc⟩
      have hc := (has_hasC (h1 a ha)).1 hc
      have := of_decide_eq_true (hin a ha)
      exact ⟨by unfold hasC at hc; omega, a, ha, by rw [clip_same hs (hin a ha)]; exact hc⟩
  have hn : (T ++ U).Nodup := List.nodup_append.2 ⟨hT.1, hU.1, fun x hx y hy e => by
    subst e
    obtain ⟨a, ha, hc⟩ := (hin' x).1 hx
    have := ((hU.2 x).1 hy).2.1 a ha
    rw [hc] at this; cases this⟩
  have := count_all (R := R) (C := C) (by omega) (by omega) hn fun p => by
    rw [List.mem_append, hin', hU.2]
    constructor
    · rintro (⟨a, ha, hc⟩ | ⟨h, _⟩)
      · have hc := (has_hasC (h1 a ha)).1 hc
        have := of_decide_eq_true (hin a ha)
        unfold hasC at hc; omega
      · exact h
    · intro h
      by_cases hany : ∃ a ∈ G, hasF a p.1 p.2 = true
      · exact .inl hany
      · refine .inr ⟨h, fun a ha => ?_, .inl h.1.2⟩
        cases hc : hasF a p.1 p.2 with
        | false => rfl
        | true => exact absurd ⟨a, ha, hc⟩ hany
  rw [List.length_append] at this
  omega
theorem check0 {R C : Int} {L : List Rc} : checkF R C L = 0 ↔ screenF R C = true ∧ (∀ a ∈ L, inF R C a = true) ∧ apartF L = true := by
  unfold checkF
  by_cases hs : screenF R C = true
  · rw [if_pos hs]
    by_cases h : (L.all (inF R C) && apartF L) = true
    · rw [if_pos h]
      rw [Bool.and_eq_true, List.all_eq_true] at h
      exact ⟨fun _ => ⟨hs, h.1, h.2⟩, fun _ => rfl⟩
    · rw [if_neg h]
      refine ⟨fun h' => (by cases h'), fun ⟨_, h1, h2⟩ => absurd ?_ h⟩
      rw [Bool.and_eq_true, List.all_eq_true]
      exact ⟨h1, h2⟩
  · rw [if_neg hs]
    exact ⟨fun h => (by cases h), fun h => absurd h.1 hs⟩
theorem meet_comm (a b : Rc) : meetF a b = meetF b a := by
  unfold meetF spanF
  rw [Bool.eq_iff_iff]
  simp only [Bool.and_eq_true, decide_eq_true_eq]
  omega
theorem apart_rev {L : List Rc} (h : apartF L = true) : apartF L.reverse = true := by
  refine decide_eq_true ?_
  rw [List.pairwise_reverse]
  refine (of_decide_eq_true h).imp fun {a b} hab => ?_
  rw [meet_comm]; exact hab
theorem check_rev {R C : Int} {L : List Rc} (h : checkF R C L = 0) : checkF R C L.reverse = 0 := by
  obtain ⟨h1, h2, h3⟩ := check0.1 h
  exact check0.2 ⟨h1, fun a ha => h2 a (List.mem_reverse.1 ha), apart_rev h3⟩
theorem sum_bound {R C : Int} : ∀ (L : List Rc), (∀ a ∈ L, inF R C a = true) → 0 ≤ sumRC L ∧ sumRC L ≤ L.length * 262144
  | [], _ => by simp [sumRC]
  | a :: L, h => by
    have ih := sum_bound L fun b hb => h b (List.mem_cons_of_mem _ hb)
    have ha := of_decide_eq_true (h a List.mem_cons_self)
    have h1 : 0 ≤ a.r * a.c := Int.mul_nonneg (by omega) (by omega)
    have h2 : a.r * a.c ≤ 512 * 512 := Int.mul_le_mul (by omega) (by omega) (by omega) (by omega)
    rw [sum_cons, List.length_cons]
    omega
theorem free_small {R C : Int} (hR : R ≤ 512) (hC : C ≤ 512) {G : List Rc} {i k : Int} {U : List Ps} (h : FreeTo R C G i k U) : U.length ≤ 512 * 512 := by
  have : U ⊆ (List.range 512).flatMap fun i => (List.range 512).map fun k => (((i : Nat) : Int), ((k : Nat) : Int)) := fun p hp => by
    obtain ⟨h1, _⟩ := (h.2 p).1 hp
    simp only [List.mem_flatMap, List.mem_range, List.mem_map]
    refine ⟨p.1.toNat, by omega, p.2.toNat, by omega, ?_⟩
    obtain ⟨p1, p2⟩ := p
    simp only at *
    rw [Int.toNat_of_nonneg (by omega), Int.toNat_of_nonneg (by omega)]
  refine Nat.le_trans (h.1.length_le_of_subset this) ?_
  rw [rows_len (fun i k => (((i : Nat) : Int), ((k : Nat) : Int)))]; exact Nat.le_refl _
end Go.Proofs.Ytacabjkhhejjcaa.Run
