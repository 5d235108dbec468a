/- The law PaneTells of chapter 26, as a run of this session's own interpreter. -/
import Derived.Test.YtacabjkhhejjcaaAt
import Derived.Test.YtacabjkhhejjcaaVcT
namespace Go.Proofs.Ytacabjkhhejjcaa.Run
open Go Go.RowKit
set_option linter.unusedVariables false
set_option linter.unusedSimpArgs false

theorem clip_has {a : Rc} {R C : Int} (hs : screenF R C = true) {p : Ps} : hasC (clipF a R C) p ↔ hasF a p.1 p.2 = true ∧ (0 ≤ p.1 ∧ p.1 < R) ∧ 0 ≤ p.2 ∧ p.2 < C := by
  have hRC : 2 ≤ R ∧ R ≤ 512 ∧ 1 ≤ C ∧ C ≤ 512 := of_decide_eq_true hs
  have span : ∀ (f n most : Int), 1 ≤ most → ∀ x, ((rspanF f n most).1 ≤ x ∧ x < (rspanF f n most).2 ↔ 0 < n ∧ (f ≤ x ∧ x < f + n) ∧ 0 ≤ x ∧ x < most) := by
    intro f n most hm x
    unfold rspanF
    split
    · simp only; omega
    · split
      · simp only; omega
      · simp only; omega
  have s1 := span a.t a.r R (by omega) p.1
  have s2 := span a.l a.c C (by omega) p.2
  unfold hasF
  rw [decide_eq_true_iff]
  unfold clipF
  generalize rspanF a.t a.r R = u at *
  generalize rspanF a.l a.c C = w at *
  split
  · unfold hasC; simp only; omega
  · unfold hasC; simp only; omega
theorem free_any {R C : Int} {L : List Rc} (hs : screenF R C = true) {T U : List Ps} (hT : TakenBy R C L T) (hU : FreeTo R C L R 0 U) : (T.length : Int) + U.length = (R - 1) * C := by
  have hRC : 2 ≤ R ∧ R ≤ 512 ∧ 1 ≤ C ∧ C ≤ 512 := of_decide_eq_true hs
  have hin' : ∀ p : Ps, p ∈ T ↔ ((1 ≤ p.1 ∧ p.1 < R) ∧ 0 ≤ p.2 ∧ p.2 < C) ∧ ∃ a ∈ L, hasF a p.1 p.2 = true := fun p => by
    rw [hT.2]
    constructor
    · rintro ⟨h0, a, ha, hc⟩
      obtain ⟨h1, h2⟩ := (clip_has hs).1 hc
      exact ⟨by omega, a, ha, h1⟩
    · rintro ⟨h0, a, ha, hc⟩
      exact ⟨by omega, a, ha, (clip_has hs).2 ⟨hc, by omega⟩⟩
  have hn : (T ++ U).Nodup := List.nodup_append.2 ⟨hT.1, hU.1, fun x hx y hy e => by
    subst e
    obtain ⟨_, a, ha, hc⟩ := (hin' x).1 hx
    have := ((hU.2 x).1 hy).2.1 a ha
    rw [hc] at this; cases this⟩
  have := count_all (R := R) (C := C) (by omega) (by omega) hn fun p => by
    rw [List.mem_append, hin', hU.2]
    constructor
    · rintro (⟨h, _⟩ | ⟨h, _⟩)
      · exact h
      · exact h
    · intro h
      by_cases hany : ∃ a ∈ L, hasF a p.1 p.2 = true
      · exact .inl ⟨h, hany⟩
      · refine .inr ⟨h, fun a ha => ?_, .inl h.1.2⟩
        cases hc : hasF a p.1 p.2 with
        | false => rfl
        | true => exact absurd ⟨a, ha, hc⟩ hany
  rw [List.length_append] at this
  omega
theorem at_uniq {L : List Rc} {i k n m : Int} (h1 : AtIs L i k n) (h2 : AtIs L i k m) : n = m := by
  rcases h1 with ⟨rfl, h1⟩ | ⟨j, a, rfl, hj, ha, h1⟩
  · rcases h2 with ⟨rfl, _⟩ | ⟨x, b, rfl, hx, hb, _⟩
    · rfl
    · have := h1 b (List.mem_of_getElem? hx)
      rw [hb] at this; cases this
  · rcases h2 with ⟨rfl, h2⟩ | ⟨x, b, rfl, hx, hb, h2⟩
    · have := h2 a (List.mem_of_getElem? hj)
      rw [ha] at this; cases this
    · rcases Nat.lt_trichotomy j x with h | h | h
      · have := h2 j a hj h
        rw [ha] at this; cases this
      · rw [h]
      · have := h1 x b hx h
        rw [hb] at this; cases this
theorem at_bound {L : List Rc} {i k n : Int} (h : AtIs L i k n) : -1 ≤ n ∧ n < L.length := by
  rcases h with ⟨rfl, _⟩ | ⟨j, a, rfl, hj, _⟩
  · omega
  · have := (List.getElem?_eq_some_iff.1 hj).1
    omega

section
variable {M : Mem} {Q : Value → Mem → Prop}
abbrev ratI (P : Mem) (L : List Rc) (v : Value) (b1 : Nat) (i k : Int) : Nat → LS → Prop := fun m s => ∃ (j : Nat) (M' : Mem), s = ref26_At_l1_s v (.int .i64 j) b1 (.int .i64 i) (.int .i64 k) [] M' ∧ Ext P M' ∧ j ≤ L.length ∧ (∀ (x : Nat) (b : Rc), L[x]? = some b → x < j → hasF b i k = false) ∧ m = L.length - j
theorem rat_W (hM : M.base ≤ M.size) {v : Value} {L : List Rc} (h : Sl M v L) (hok : ∀ a ∈ L, a.ok) (hL : L.length < 2 ^ 60) {i k : Int} (hi : 0 ≤ i ∧ i < 512) (hk : 0 ≤ k ∧ k < 512) (q : ∀ M' n, Ext M M' → AtIs L i k n → Q (.int .i64 n) M') : W funs known (.func (.func n_ref26_At) #[] #[]) [posV (i, k), v] M Q := by
  obtain ⟨ad, cap, rfl⟩ := h.shape
  refine ref26_At_wp hM ⟨rfl, fun b1 P hb1 hP => ?_⟩
  have eP : Ext M P := Ext.push' hP
  have sP : P.size = M.size + 1 := by rw [hP]; rfl
  have kP := eP.ok hM
  refine ⟨ref26_At_l1_m, ratI P L (.slice ad L.length cap) b1 i k, ⟨L.length, 0, P, rfl, Ext.refl _, Nat.zero_le _, fun _ _ _ h => absurd h (by omega), rfl⟩, ?_⟩
  rintro m s ⟨j, M', rfl, eM, hj, hA, rfl⟩
  refine ref26_At_l1_wp (I := ratI P L (.slice ad L.length cap) b1 i k) ?_
  refine step_lenS (h.ext (eP.trans eM)) (step_lss (wpIf.dec (fun h1 => ?_) (fun h1 => ?_)))
  · obtain ⟨a, ha⟩ : ∃ a, L[j]? = some a := ⟨_, List.getElem?_eq_getElem (by omega)⟩
    refine rd (h.ext (eP.trans eM)) (by omega) (by rw [Int.toNat_natCast]; exact ha) fun _ => has_W (eM.ok kP) (hok a (List.mem_of_getElem? ha)) hi hk fun M6 f6 => ⟨f6.keep _, ?_⟩
    refine wpIf.mk (fun g => ?_) (fun g => ?_)
    · exact q M6 j (eP.trans (eM.trans f6)) (.inr ⟨j, a, rfl, ha, g, hA⟩)
    · refine step_add (by omega) (by omega) ⟨L.length - (j + 1), by omega, j + 1, M6, rfl, eM.trans f6, by omega, fun x b hx hxj => ?_, rfl⟩
      rcases Nat.lt_or_eq_of_le (Nat.le_of_lt_succ hxj) with h3 | rfl
      · exact hA x b hx h3
      · rw [ha] at hx; cases hx; exact g
  · refine ref26_At_l1_out (ref26_At_c0_wp (q M' (-1) (eP.trans eM) (.inl ⟨rfl, fun a ha => ?_⟩)))
    obtain ⟨x, hx⟩ := List.mem_iff_getElem?.1 ha
    exact hA x a hx (by have := (List.getElem?_eq_some_iff.1 hx).1; omega)

abbrev rf1I (P : Mem) (R C : Int) (L : List Rc) (v : Value) : Nat → LS → Prop := fun k s => ∃ (i : Nat) (M' : Mem) (U : List Ps), s = ref26_Free_l1_s (.int .i64 R) (.int .i64 C) v (.int .i64 U.length) (.int .i64 i) [] M' ∧ Ext P M' ∧ FreeTo R C L i 0 U ∧ (i : Int) ≤ R ∧ 1 ≤ i ∧ k = R.toNat - i
abbrev rf3I (P : Mem) (R C : Int) (L : List Rc) (v : Value) (i : Nat) : Nat → LS → Prop := fun k s => ∃ (c : Nat) (M' : Mem) (U : List Ps), s = ref26_Free_l3_s (.int .i64 R) (.int .i64 C) v (.int .i64 U.length) (.int .i64 i) (.int .i64 c) [] M' ∧ Ext P M' ∧ FreeTo R C L i c U ∧ (c : Int) ≤ C ∧ k = C.toNat - c
theorem rfree_W (hM : M.base ≤ M.size) {v : Value} {L : List Rc} (h : Sl M v L) (hok : ∀ a ∈ L, a.ok) (hL : L.length < 2 ^ 60) {R C : Int} (q0 : screenF R C = false → Q (.int .i64 0) M) (q : screenF R C = true → ∀ M' U, Ext M M' → FreeTo R C L R 0 U → Q (.int .i64 (U.length : Nat)) M') : W funs known (.func (.func n_ref26_Free) #[] #[]) [.int .i64 R, .int .i64 C, v] M Q := by
  obtain ⟨ad, cap, rfl⟩ := h.shape
  refine ref26_Free_wp hM ?_
  by_cases hs : screenF R C = true
  rotate_left
  · have hs : screenF R C = false := by simpa using hs
    refine ⟨ref26_Free_l1_m, fun k s => s = ref26_Free_l1_s (.int .i64 R) (.int .i64 C) (.slice ad L.length cap) (.int .i64 0) (.int .i64 1) [] M, ⟨0, rfl⟩, ?_⟩
    rintro k s rfl
    refine ref26_Free_l1_wp (I := fun k s => s = ref26_Free_l1_s (.int .i64 R) (.int .i64 C) (.slice ad L.length cap) (.int .i64 0) (.int .i64 1) [] M) ?_
    refine step_lss (wpIf.dec (fun _ => rscreen_W hM ?_) (fun _ => ref26_Free_l1_out (ref26_Free_c0_wp (q0 hs))))
    rw [hs]
    exact wpIf.ff (ref26_Free_l1_out (ref26_Free_c0_wp (q0 hs)))
  have q := q hs
  have hRC : 2 ≤ R ∧ R ≤ 512 ∧ 1 ≤ C ∧ C ≤ 512 := of_decide_eq_true hs
  refine ⟨ref26_Free_l1_m, rf1I M R C L (.slice ad L.length cap), ⟨R.toNat - 1, 1, M, [], rfl, Ext.refl _, ⟨List.nodup_nil, fun p => by simp only [List.not_mem_nil, false_iff]; omega⟩, by omega, by omega, rfl⟩, ?_⟩
  rintro k s ⟨i, M1, U, rfl, e1, hU, hiR, hi1, rfl⟩
  refine ref26_Free_l1_wp (I := rf1I M R C L (.slice ad L.length cap)) ?_
  refine step_lss (wpIf.dec (fun g1 => ?_) (fun g1 => ?_))
  · refine rscreen_W (e1.ok hM) ?_
    rw [hs]
    refine wpIf.tt ⟨ref26_Free_l3_m, rf3I M R C L (.slice ad L.length cap) i, ⟨C.toNat, 0, M1, U, rfl, e1, hU, by omega, rfl⟩, ?_⟩
    clear hU e1
    rintro k s ⟨c, M3, U, rfl, e3, hU, hcC, rfl⟩
    refine ref26_Free_l3_wp (I := rf3I M R C L (.slice ad L.length cap) i) ?_
    have hsm := free_small (by omega) (by omega) hU
    refine step_lss (wpIf.dec (fun g2 => ?_) (fun g2 => ?_))
    · refine ⟨posV ((i : Int), (c : Int)), rfl, ?_⟩
      refine rat_W (e3.ok hM) (h.ext e3) hok hL ⟨by omega, by omega⟩ ⟨by omega, by omega⟩ fun M4 n e4 hn => ?_
      refine step_lss (wpIf.dec (fun g3 => ?_) (fun g3 => ?_))
      · have hnone : ∀ a ∈ L, hasF a i c = false := by
          rcases hn with ⟨_, h⟩ | ⟨j, _, h, _⟩
          · exact h
          · omega
        have hU' : FreeTo R C L i ((c + 1 : Nat) : Int) (U ++ [((i : Int), (c : Int))]) := by
          refine ⟨List.nodup_append.2 ⟨hU.1, by simp, fun x hx y hy e => ?_⟩, fun p => ?_⟩
          · rw [List.mem_singleton] at hy
            subst e; subst hy
            have := ((hU.2 _).1 hx).2.2
            simp only at this
            omega
          · rw [List.mem_append, hU.2, List.mem_singleton]
            constructor
            · rintro (⟨h1, h2, h3⟩ | rfl)
              · exact ⟨h1, h2, by omega⟩
              · exact ⟨⟨⟨by show 1 ≤ (i : Int); omega, by show (i : Int) < R; omega⟩, by show 0 ≤ (c : Int); omega, by show (c : Int) < C; omega⟩, hnone, .inr ⟨rfl, by show (c : Int) < ((c + 1 : Nat) : Int); omega⟩⟩
            · rintro ⟨h1, h2, h3⟩
              by_cases hp : p.1 = i ∧ p.2 = c
              · right
                obtain ⟨p1, p2⟩ := p
                simp only [Prod.mk.injEq]
                exact hp
              · exact .inl ⟨h1, h2, by omega⟩
        have hlen : ((U.length : Nat) : Int) + 1 = (((U ++ [((i : Int), (c : Int))]).length : Nat) : Int) := by simp
        refine step_add (by omega) (by omega) (step_add (by omega) (by omega) ⟨C.toNat - (c + 1), by omega, c + 1, M4, U ++ [((i : Int), (c : Int))], ?_, e3.trans e4, hU', by omega, rfl⟩)
        rw [← hlen]; rfl
      · have hU' : FreeTo R C L i ((c + 1 : Nat) : Int) U := ⟨hU.1, fun p => by
          rw [hU.2]
          constructor
          · rintro ⟨h1, h2, h3⟩; exact ⟨h1, h2, by omega⟩
          · rintro ⟨h1, h2, h3⟩
            refine ⟨h1, h2, ?_⟩
            by_cases hp : p.1 = i ∧ p.2 = c
            · exfalso
              rcases hn with ⟨h, _⟩ | ⟨j, a, _, hj, h, _⟩
              · omega
              · have := h2 a (List.mem_of_getElem? hj)
                rw [hp.1, hp.2, h] at this; cases this
            · omega⟩
        exact step_add (by omega) (by omega) ⟨C.toNat - (c + 1), by omega, c + 1, M4, U, rfl, e3.trans e4, hU', by omega, rfl⟩
    · refine ref26_Free_l3_out (ref26_Free_c2_wp (step_add (by omega) (by omega) ⟨R.toNat - (i + 1), by omega, i + 1, M3, U, rfl, e3, ⟨hU.1, fun p => ?_⟩, by omega, by omega, rfl⟩))
      rw [hU.2]
      constructor
      · rintro ⟨h1, h2, h3⟩; exact ⟨h1, h2, by omega⟩
      · rintro ⟨h1, h2, h3⟩; exact ⟨h1, h2, by omega⟩
  · have hiR' : (i : Int) = R := by omega
    rw [hiR'] at hU
    exact ref26_Free_l1_out (ref26_Free_c0_wp (q M1 U e1 hU))

abbrev rstI (M : Mem) (R C : Int) (q r n : Nat) : Nat → LS → Prop := fun k s => ∃ (i : Nat) (M' : Mem) (v : Value), s = ref26_Stripes_l2_s (.int .i64 R) (.int .i64 C) (.int .i64 (n : Nat)) v (.int .i64 (topN q r i : Nat)) (.int .i64 (i : Nat)) [] M' ∧ Ext M M' ∧ Mine 34 M M' v (stripesF C q r i) ∧ i ≤ n ∧ k = n - i
set_option maxHeartbeats 1000000 in
theorem rstripes_W (hM : M.base ≤ M.size) {R C n : Int} (hR : I64 R) (hn : I64 n) (q0 : (screenF R C = false ∨ n < 1 ∨ n ≥ R) → Q (.slice none 0 0) M) (q : screenF R C = true → 1 ≤ n → n < R → ∀ M' v, Ext M M' → Mine 34 M M' v (stripesF C ((R - 1).toNat / n.toNat) ((R - 1).toNat % n.toNat) n.toNat) → Q v M') :
    W funs known (.func (.func n_ref26_Stripes) #[] #[]) [.int .i64 R, .int .i64 C, .int .i64 n] M Q := by
  refine ref26_Stripes_wp hM (rscreen_W hM ⟨_, rfl, ?_⟩)
  by_cases hs : screenF R C = true
  rotate_left
  · have hs : screenF R C = false := by simpa using hs
    rw [hs]
    exact wpIf.tt (q0 (.inl hs))
  rw [hs]
  have hRC : 2 ≤ R ∧ R ≤ 512 ∧ 1 ≤ C ∧ C ≤ 512 := of_decide_eq_true hs
  refine wpIf.ff (step_lss (wpIf.dec (fun h1 => q0 (.inr (.inl h1))) (fun h1 => step_sub (by omega) (by omega) (step_gtr (wpIf.dec (fun h2 => q0 (.inr (.inr (by omega)))) (fun h2 => ?_))))))
  have q := q hs (by omega) (by omega)
  obtain ⟨N, rfl⟩ : ∃ N : Nat, n = (N : Int) := ⟨n.toNat, by omega⟩
  rw [Int.toNat_natCast] at q
  obtain ⟨S, hS⟩ : ∃ S : Nat, R - 1 = (S : Int) := ⟨(R - 1).toNat, by omega⟩
  rw [hS, Int.toNat_natCast] at q
  have hdm : N * (S / N) + S % N = S := Nat.div_add_mod S N
  have hrN : S % N < N := Nat.mod_lt _ (by omega)
  have hdiv : (S : Int) / (N : Int) = ((S / N : Nat) : Int) := rfl
  have hmod : (S : Int) % (N : Int) = ((S % N : Nat) : Int) := rfl
  generalize S / N = d at q hdm hdiv
  generalize S % N = r at q hdm hrN hmod
  refine ref26_Stripes_c0_wp ?_
  refine ⟨ref26_Stripes_l2_m, rstI M R C d r N, ⟨N, 0, M, .slice none 0 0, ?_, Ext.refl M, .inr ⟨rfl, rfl⟩, Nat.zero_le _, rfl⟩, ?_⟩
  · have e1 : topN d r 0 = 1 := by unfold topN; omega
    rw [e1]; rfl
  rintro k s ⟨i, M', v, rfl, eM, nM0, hi, rfl⟩
  have nM : Mine 34 M M' v (stripesF C d r i) := nM0
  clear nM0
  refine ref26_Stripes_l2_wp (I := rstI M R C d r N) ?_
  have htop : topN d r i ≤ 1 + (N * d + r) := by rw [← top_end d r N hrN]; exact top_mono d r hi
  have hdN : d ≤ N * d := Nat.le_mul_of_pos_left _ (by omega)
  refine step_lss (wpIf.dec (fun g1 => ?_) (fun g1 => ?_))
  · have hiN : i < N := by omega
    have ht := top_succ d r i
    have htop' : topN d r (i + 1) ≤ 1 + (N * d + r) := by rw [← top_end d r N hrN]; exact top_mono d r hiN
    refine step_sub (by omega) (by omega) (step_quo64 (by omega) (by omega) (by omega) ?_)
    rw [hS, hdiv]
    refine ⟨.agg #[.int .i64 (topN d r i : Nat), .int .i64 0, .int .i64 (d : Nat), .int .i64 C], rfl, rfl, fun b5 M6 hb5 hM6 => ⟨⟨rfl, rfl, by decide⟩, fun M7 hM7 => ?_⟩⟩
    have f6 : Ext M' M6 := Ext.push' hM6
    have s6 : M6.size = M'.size + 1 := by rw [hM6]; rfl
    have f7 : Ext M' M7 := hM7 ▸ f6.set (by omega) (by omega) _
    have s7 : M7.size = M6.size := by rw [hM7]; rfl
    refine step_sub (by omega) (by omega) (step_rem64 (by omega) (by omega) ?_)
    rw [hS, hmod]
    refine step_lss (wpIf.dec (fun g2 => ?_) (fun g2 => ?_))
    · have hh : hgt d r i = d + 1 := by unfold hgt; rw [if_pos (by omega)]
      refine LGet.mk (v := .int .i64 (d : Nat)) rfl (step_add (by omega) (by omega) ?_)
      rw [show ((d : Nat) : Int) + 1 = ((hgt d r i : Nat) : Int) by omega]
      refine ⟨.int .i64 (hgt d r i : Nat), rfl, rfl, (by show 2 < 4; decide), fun M13 hM13 => ?_⟩
      have f13 : Ext M' M13 := hM13 ▸ f7.set (by omega) (by omega) _
      have s13 : M13.size = M7.size := by rw [hM13]; rfl
      refine LGetN.as (stF C d r i).val (by exact Nat.le_refl 4) (by first | rfl | (rw [hd]; rfl)) (step_lit [stF C d r i] rfl rfl fun v14 M15 f15 n15 => ⟨f15.keep _, ?_⟩)
      have f815 := f13.trans f15
      have hblk : blk v ≠ some b5 := by
        rcases nM with ⟨b, sp, rfl, g, _⟩ | ⟨_, rfl⟩
        · have := Mem.lt_of_get g
          intro e
          have : b = b5 := Option.some.inj e
          omega
        · intro e; cases e
      refine step_appM (eM.trans f815) hM (nM.ext f815) n15.sl.srcs (by simp [stripesF]; omega) (by simp [stripesF]; omega) fun v16 M17 f17 n17 same => ⟨fun b hb hlt => ?_, LGet.mk (v := .int .i64 (hgt d r i : Nat)) (by first | rfl | (rw [hh]; rfl)) (step_add (by omega) (by omega) (step_add (by omega) (by omega) ⟨N - (i + 1), by omega, i + 1, M17, v16, ?_, f17, ?_, by omega, rfl⟩))⟩
      · rw [List.mem_singleton] at hb
        subst hb
        exact same _ hlt hblk
      · rw [show ((topN d r i : Nat) : Int) + (hgt d r i : Nat) = ((topN d r (i + 1) : Nat) : Int) by omega]; rfl
      · have : stripesF C d r (i + 1) = stripesF C d r i ++ [stF C d r i] := by simp [stripesF, List.range_succ]
        rw [this]; exact n17
    · have hh : hgt d r i = d := by unfold hgt; rw [if_neg (by omega)]; omega
      have hd : (stF C d r i).val = .agg #[.int .i64 (topN d r i : Nat), .int .i64 0, .int .i64 (d : Nat), .int .i64 C] := by unfold stF Rc.val; rw [hh]
      refine LGetN.as (stF C d r i).val (by exact Nat.le_refl 4) (by first | rfl | (rw [hd]; rfl)) (step_lit [stF C d r i] rfl rfl fun v14 M15 f15 n15 => ⟨f15.keep _, ?_⟩)
      have f815 := f7.trans f15
      have hblk : blk v ≠ some b5 := by
        rcases nM with ⟨b, sp, rfl, g, _⟩ | ⟨_, rfl⟩
        · have := Mem.lt_of_get g
          intro e
          have : b = b5 := Option.some.inj e
          omega
        · intro e; cases e
      refine step_appM (eM.trans f815) hM (nM.ext f815) n15.sl.srcs (by simp [stripesF]; omega) (by simp [stripesF]; omega) fun v16 M17 f17 n17 same => ⟨fun b hb hlt => ?_, LGet.mk (v := .int .i64 (hgt d r i : Nat)) (by first | rfl | (rw [hh]; rfl)) (step_add (by omega) (by omega) (step_add (by omega) (by omega) ⟨N - (i + 1), by omega, i + 1, M17, v16, ?_, f17, ?_, by omega, rfl⟩))⟩
      · rw [List.mem_singleton] at hb
        subst hb
        exact same _ hlt hblk
      · rw [show ((topN d r i : Nat) : Int) + (hgt d r i : Nat) = ((topN d r (i + 1) : Nat) : Int) by omega]; rfl
      · have : stripesF C d r (i + 1) = stripesF C d r i ++ [stF C d r i] := by simp [stripesF, List.range_succ]
        rw [this]; exact n17
  · have : i = N := by omega
    subst this
    exact ref26_Stripes_l2_out (ref26_Stripes_c1_wp (q M' v eM nM))
end
end Go.Proofs.Ytacabjkhhejjcaa.Run
