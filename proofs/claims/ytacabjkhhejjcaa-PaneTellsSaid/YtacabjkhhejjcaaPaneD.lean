/- What the document's Check answers: the same. -/
import Derived.Test.YtacabjkhhejjcaaPaneC
namespace Go.Proofs.Ytacabjkhhejjcaa.Run
open Go Go.RowKit
set_option linter.unusedVariables false
set_option linter.unusedSimpArgs false

theorem cnt_pair {p : Rc → Bool} : ∀ L : List Rc, L.countP p ≤ 1 ↔ L.Pairwise fun a b => ¬ (p a = true ∧ p b = true)
  | [] => by simp
  | a :: L => by
    rw [List.pairwise_cons, ← cnt_pair L, List.countP_cons]
    by_cases h : p a = true
    · rw [if_pos h]
      constructor
      · intro hc
        have h0 : L.countP p = 0 := by omega
        rw [List.countP_eq_zero] at h0
        exact ⟨fun b hb hh => h0 b hb hh.2, by omega⟩
      · intro hc
        have h0 : L.countP p = 0 := by
          rw [List.countP_eq_zero]
          exact fun b hb hp => hc.1 b hb ⟨h, hp⟩
        omega
    · rw [if_neg h]
      constructor
      · intro hc
        exact ⟨fun b hb hh => h hh.1, by omega⟩
      · intro hc
        omega

theorem meet_iff {R C : Int} {a b : Rc} (ha : inF R C a = true) (hb : inF R C b = true) : meetF a b = true ↔ ∃ i k : Int, 0 ≤ i ∧ i < R ∧ 0 ≤ k ∧ k < C ∧ hasF a i k = true ∧ hasF b i k = true := by
  have ha := of_decide_eq_true ha
  have hb := of_decide_eq_true hb
  unfold meetF spanF hasF
  simp only [Bool.and_eq_true, decide_eq_true_iff]
  constructor
  · intro h
    have i1 : a.t ≤ max a.t b.t := by omega
    have i2 : b.t ≤ max a.t b.t := by omega
    have i3 : max a.t b.t < a.t + a.r := by omega
    have i4 : max a.t b.t < b.t + b.r := by omega
    have k1 : a.l ≤ max a.l b.l := by omega
    have k2 : b.l ≤ max a.l b.l := by omega
    have k3 : max a.l b.l < a.l + a.c := by omega
    have k4 : max a.l b.l < b.l + b.c := by omega
    refine ⟨max a.t b.t, max a.l b.l, by omega, by omega, by omega, by omega, ?_, ?_⟩
    · exact ⟨by omega, by omega, i1, i3, k1, k3⟩
    · exact ⟨by omega, by omega, i2, i4, k2, k4⟩
  · rintro ⟨i, k, h⟩
    omega

theorem apart_cnt {R C : Int} {L : List Rc} (hL : L.all (inF R C) = true) (h : apartF L = true) (i k : Int) (hi : 0 ≤ i ∧ i < R) (hk : 0 ≤ k ∧ k < C) : L.countP (fun a => hasF a i k) ≤ 1 := by
  rw [cnt_pair]
  have hp := of_decide_eq_true h
  rw [List.all_eq_true] at hL
  refine List.Pairwise.imp_of_mem ?_ hp
  intro a b ha hb hm hh
  have : meetF b a = true := (meet_iff (hL b hb) (hL a ha)).2 ⟨i, k, hi.1, hi.2, hk.1, hk.2, hh.2, hh.1⟩
  rw [this] at hm
  cases hm
theorem cnt_apart {R C : Int} {L : List Rc} (hL : L.all (inF R C) = true) (h : ∀ i k : Int, 0 ≤ i → i < R → 0 ≤ k → k < C → L.countP (fun a => hasF a i k) ≤ 1) : apartF L = true := by
  rw [List.all_eq_true] at hL
  unfold apartF
  rw [decide_eq_true_iff]
  rw [List.pairwise_iff_getElem]
  intro x y hx hy hlt
  apply Bool.eq_false_iff.2
  intro hm
  obtain ⟨i, k, i0, i1, k0, k1, h1, h2⟩ := (meet_iff (hL _ (List.getElem_mem hy)) (hL _ (List.getElem_mem hx))).1 hm
  have := (cnt_pair L).1 (h i k i0 i1 k0 k1)
  rw [List.pairwise_iff_getElem] at this
  exact this x y hx hy hlt ⟨h2, h1⟩

section
variable {Q : Value → Mem → Prop}

abbrev rcI (M : Mem) (R C : Int) (L : List Rc) (v : Value) : Nat → LS → Prop := fun k s => ∃ (i : Nat) (M' : Mem), s = ref26_Check_l1_s (.int .i64 R) (.int .i64 C) v (.int .i64 i) [] M' ∧ Ext M M' ∧ i ≤ L.length ∧ (∀ (x : Nat) (a : Rc), L[x]? = some a → x < i → inF R C a = true) ∧ k = L.length - i
abbrev rcR (M : Mem) (R C : Int) (L : List Rc) (v : Value) : Nat → LS → Prop := fun n s => ∃ (i : Int) (M' : Mem), s = ref26_Check_l3_s (.int .i64 R) (.int .i64 C) v (.int .i64 i) [] M' ∧ Ext M M' ∧ 0 ≤ i ∧ i ≤ R ∧ (∀ i' k' : Int, 0 ≤ i' → i' < i → 0 ≤ k' → k' < C → L.countP (fun a => hasF a i' k') ≤ 1) ∧ n = (R - i).toNat
abbrev rcC (M : Mem) (R C : Int) (L : List Rc) (v : Value) (i : Int) : Nat → LS → Prop := fun n s => ∃ (k : Int) (M' : Mem), s = ref26_Check_l5_s (.int .i64 R) (.int .i64 C) v (.int .i64 i) (.int .i64 k) [] M' ∧ Ext M M' ∧ 0 ≤ k ∧ k ≤ C ∧ (∀ k' : Int, 0 ≤ k' → k' < k → L.countP (fun a => hasF a i k') ≤ 1) ∧ n = (C - k).toNat
abbrev rcN (M : Mem) (R C : Int) (L : List Rc) (v : Value) (i k : Int) : Nat → LS → Prop := fun n s => ∃ (m : Nat) (M' : Mem), s = ref26_Check_l8_s (.int .i64 R) (.int .i64 C) v (.int .i64 i) (.int .i64 k) (.int .i64 ((L.take m).countP (fun a => hasF a i k))) (.int .i64 m) [] M' ∧ Ext M M' ∧ m ≤ L.length ∧ n = L.length - m

set_option maxHeartbeats 1000000 in
theorem rcheck_W {M : Mem} (hM : M.base ≤ M.size) {v : Value} {L : List Rc} (h : Sl M v L) (hok : ∀ a ∈ L, a.ok) (hL : L.length < 2 ^ 60) {R C : Int}
    (q : ∀ M', Ext M M' → Q (.int .i64 (checkF R C L)) M') : W funs known (.func (.func n_ref26_Check) #[] #[]) [.int .i64 R, .int .i64 C, v] M Q := by
  obtain ⟨ad, cap, rfl, hcap, hs⟩ := id h
  refine ref26_Check_wp hM (rscreen_W hM (step_not (wpIf.not (fun hb => ?_) (fun hb => ?_))))
  · exact n_of (q M (Ext.refl M)) (by unfold checkF; rw [hb]; rfl)
  have hsc := of_decide_eq_true hb
  refine ⟨ref26_Check_l1_m, rcI M R C L (.slice ad L.length cap), ⟨L.length, 0, M, rfl, Ext.refl M, Nat.zero_le _, fun x a _ hx => absurd hx (by omega), rfl⟩, ?_⟩
  rintro k s ⟨i, M', rfl, eM, hi, hA, rfl⟩
  refine ref26_Check_l1_wp (I := rcI M R C L (.slice ad L.length cap)) (step_len ?_)
  refine step_lss (wpIf.dec (fun h1 => ?_) (fun h1 => ?_))
  · have hlt : i < L.length := by omega
    obtain ⟨a, ha⟩ : ∃ a, L[i]? = some a := ⟨_, List.getElem?_eq_getElem hlt⟩
    obtain ⟨p, hp, hat⟩ := (h.ext eM).addrN ha (j := .i64) M'
    refine ⟨p, hp, _, hat.load, rin_W (eM.ok hM) (hok a (List.mem_of_getElem? ha)) fun M6 e6 => step_not (wpIf.not (fun hb' => ?_) (fun hb' => ?_))⟩
    · have : checkF R C L = 8 := by unfold checkF; rw [hb, not_all_of ha hb']; rfl
      exact (this ▸ q M6 (eM.trans e6))
    · refine step_add (by omega) (by omega) ⟨L.length - (i + 1), by omega, i + 1, M6, rfl, eM.trans e6, by omega, fun x c hx hxi => ?_, rfl⟩
      rcases Nat.lt_or_eq_of_le (Nat.le_of_lt_succ hxi) with h3 | rfl
      · exact hA x c hx h3
      · rw [ha] at hx
        cases hx
        exact hb'
  · have hall : L.all (inF R C) = true := all_of fun x a hx => hA x a hx (by have := (List.getElem?_eq_some_iff.1 hx).1; omega)
    refine blockK.hit (ref26_Check_c0_wp ?_)
    refine ⟨ref26_Check_l3_m, rcR M R C L (.slice ad L.length cap), ⟨R.toNat, 0, M', rfl, eM, Int.le_refl _, by omega, fun i' k' x y => absurd y (by omega), by omega⟩, ?_⟩
    rintro n s ⟨r, M₂, rfl, e2, r0, rR, hrows, rfl⟩
    refine ref26_Check_l3_wp (I := rcR M R C L (.slice ad L.length cap)) ?_
    refine step_lss (wpIf.dec (fun h2 => ?_) (fun h2 => ?_))
    rotate_left
    · refine blockK.hit (ref26_Check_c2_wp ?_)
      have : apartF L = true := cnt_apart hall fun i k x y => hrows i k x (by omega)
      exact n_of (q M₂ e2) (by unfold checkF; rw [hb, hall, this]; rfl)
    · refine ⟨ref26_Check_l5_m, rcC M R C L (.slice ad L.length cap) r, ⟨C.toNat, 0, M₂, rfl, e2, Int.le_refl _, by omega, fun k' x y => absurd y (by omega), by omega⟩, ?_⟩
      rintro n s ⟨c, M₃, rfl, e3, c0, cC, hcols, rfl⟩
      refine ref26_Check_l5_wp (I := rcC M R C L (.slice ad L.length cap) r) ?_
      refine step_lss (wpIf.dec (fun h3 => ?_) (fun h3 => ?_))
      rotate_left
      · refine blockK.hit (ref26_Check_c4_wp (ar := none) (step_add (by omega) (by omega) ?_))
        refine ⟨(R - (r + 1)).toNat, by omega, r + 1, M₃, rfl, e3, by omega, by omega, fun i' k' x y z w => ?_, rfl⟩
        by_cases he : i' = r
        · subst he
          exact hcols k' z (by omega)
        · exact hrows i' k' x (by omega) z w
      · refine ⟨ref26_Check_l8_m, rcN M R C L (.slice ad L.length cap) r c, ⟨L.length, 0, M₃, rfl, e3, Nat.zero_le _, rfl⟩, ?_⟩
        rintro n s ⟨m, M₄, rfl, e4, hm, rfl⟩
        refine ref26_Check_l8_wp (I := rcN M R C L (.slice ad L.length cap) r c) (step_len ?_)
        refine step_lss (wpIf.dec (fun h4 => ?_) (fun h4 => ?_))
        · have hlt : m < L.length := by omega
          obtain ⟨a, ha⟩ : ∃ a, L[m]? = some a := ⟨_, List.getElem?_eq_getElem hlt⟩
          obtain ⟨p, hp, hat⟩ := (h.ext e4).addrN ha (j := .i64) M₄
          have htk : L.take (m + 1) = L.take m ++ [a] := by rw [List.take_add_one, ha]; rfl
          have hle : (L.take m).countP (fun a => hasF a r c) ≤ m := Nat.le_trans List.countP_le_length (by rw [List.length_take]; omega)
          refine ⟨p, hp, _, hat.load, .agg #[.int .i64 r, .int .i64 c], rfl, has_W (e4.ok hM) (hok a (List.mem_of_getElem? ha)) ⟨r0, by omega⟩ ⟨c0, by omega⟩ fun M7 e7 => wpIf.mk (fun hh => ?_) (fun hh => ?_)⟩
          · refine step_add (by omega) (by omega) (step_add (by omega) (by omega) ⟨L.length - (m + 1), by omega, m + 1, M7, ?_, e4.trans e7, by omega, rfl⟩)
            rw [htk, List.countP_append, List.countP_singleton, if_pos hh]
            rfl
          · refine step_add (by omega) (by omega) ⟨L.length - (m + 1), by omega, m + 1, M7, ?_, e4.trans e7, by omega, rfl⟩
            rw [htk, List.countP_append, List.countP_singleton, if_neg (by rw [hh]; decide)]
            rfl
        · have hmm : m = L.length := by omega
          subst hmm
          rw [List.take_length]
          refine blockK.hit (ref26_Check_c7_wp (ar := none) (step_gtr (wpIf.dec (fun h5 => ?_) (fun h5 => ?_))))
          · have : apartF L = false := by
              apply Bool.eq_false_iff.2
              intro hc
              have := apart_cnt hall hc r c ⟨r0, by omega⟩ ⟨c0, by omega⟩
              omega
            have : checkF R C L = 8 := by unfold checkF; rw [hb, hall, this]; rfl
            exact (this ▸ q M₄ e4)
          · refine ref26_Check_c6_wp (ar := none) (step_add (by omega) (by omega) ?_)
            refine ⟨(C - (c + 1)).toNat, by omega, c + 1, M₄, rfl, e4, by omega, by omega, fun k' x y => ?_, rfl⟩
            by_cases he : k' = c
            · subst he
              omega
            · exact hcols k' x (by omega)
end
end Go.Proofs.Ytacabjkhhejjcaa.Run
