/- Stripes of chapter 26, and the law PaneStripes as a run of this session's own interpreter. -/
import Derived.Test.YtacabjkhhejjcaaFree
import Derived.Test.YtacabjkhhejjcaaVcS
namespace Go.Proofs.Ytacabjkhhejjcaa.Run
open Go Go.RowKit
set_option linter.unusedVariables false
set_option linter.unusedSimpArgs false

theorem step_quo64 {P : Value → Prop} {x y : Int} (hy : 0 < y) (hx : 0 ≤ x) (h : x ≤ 9223372036854775807) (p : P (.int .i64 (x / y))) : ∃ v, binV .quo 0 [] (.int .i64 x) (.int .i64 y) = some v ∧ P v := by
  refine ⟨.int .i64 (x / y), ?_, p⟩
  have h1 : y ≠ 0 := by omega
  have h2 : x.tdiv y = x / y := Int.tdiv_eq_ediv_of_nonneg hx
  have h3 : x / y ≤ x := Int.ediv_le_self _ hx
  have h4 : 0 ≤ x / y := Int.ediv_nonneg hx (by omega)
  simp only [binV, isShift, Bool.false_eq_true, if_false, if_true, intOp, if_neg h1, h2, IntWalk.i64_in (x / y) ⟨by omega, by omega⟩]

/-- the i-th of some stripes: each of q rows, the first r of one more -/
def hgt (q r i : Nat) : Nat := q + if i < r then 1 else 0
def topN (q r i : Nat) : Nat := 1 + (i * q + min i r)
def stF (C : Int) (q r i : Nat) : Rc := ⟨topN q r i, 0, hgt q r i, C⟩
def stripesF (C : Int) (q r n : Nat) : List Rc := (List.range n).map (stF C q r)
theorem top_succ (q r i : Nat) : topN q r (i + 1) = topN q r i + hgt q r i := by
  unfold topN hgt
  rw [Nat.add_mul]
  split <;> omega
theorem top_mono (q r : Nat) {i j : Nat} (h : i ≤ j) : topN q r i ≤ topN q r j := by
  induction h with
  | refl => exact Nat.le_refl _
  | step _ ih => rw [top_succ]; omega
theorem top_end (q r n : Nat) (h : r < n) : topN q r n = 1 + (n * q + r) := by unfold topN; omega
theorem st_next {q r n i : Nat} (hr : r < n) (hi : i < n) : ((n - i) * q + (r - min i r) + (n - i) - 1) / (n - i) = hgt q r i := by
  unfold hgt
  have hm : 0 < n - i := by omega
  generalize hN : n - i = m at *
  have e : (q + 1) * m = m * q + m := by rw [Nat.add_mul, Nat.mul_comm, Nat.one_mul]
  have e2 : (q + 1 + 1) * m = m * q + m + m := by rw [Nat.add_mul, e, Nat.one_mul]
  have e0 : q * m = m * q := Nat.mul_comm _ _
  split
  · exact Nat.div_eq_of_lt_le (by rw [e]; omega) (by rw [e2]; omega)
  · exact Nat.div_eq_of_lt_le (by rw [Nat.add_zero, e0]; omega) (by rw [Nat.add_zero, e]; omega)
theorem left_next {q r n i : Nat} (hr : r < n) (hi : i < n) : (n - (i + 1)) * q + (r - min (i + 1) r) + hgt q r i = (n - i) * q + (r - min i r) := by
  unfold hgt
  have : (n - i) * q = (n - (i + 1)) * q + q := by rw [show n - i = (n - (i + 1)) + 1 by omega, Nat.add_mul, Nat.one_mul]
  split <;> omega

section
variable {M : Mem} {Q : Value → Mem → Prop}
abbrev stI (M : Mem) (C : Int) (q r n : Nat) : Nat → LS → Prop := fun k s => ∃ (i : Nat) (M' : Mem) (v : Value), s = pane_Stripes_l2_s (.int .i64 C) (.int .i64 ((n - i : Nat) : Int)) v (.int .i64 (topN q r i : Nat)) (.int .i64 (((n - i) * q + (r - min i r) : Nat) : Int)) [] M' ∧ Ext M M' ∧ Mine 34 M M' v (stripesF C q r i) ∧ i ≤ n ∧ k = n - i

set_option maxHeartbeats 1000000 in
theorem stripes_W (hM : M.base ≤ M.size) {R C n : Int} (q0 : (screenF R C = false ∨ n < 1 ∨ n ≥ R) → Q (.slice none 0 0) M) (q : screenF R C = true → 1 ≤ n → n < R → ∀ M' v, Ext M M' → Mine 34 M M' v (stripesF C ((R - 1).toNat / n.toNat) ((R - 1).toNat % n.toNat) n.toNat) → Q v M') :
    W funs known (.func (.func n_pane_Stripes) #[] #[]) [.int .i64 R, .int .i64 C, .int .i64 n] M Q := by
  refine pane_Stripes_wp hM (screen_W hM ⟨_, rfl, ?_⟩)
  by_cases hs : screenF R C = true
  rotate_left
  · have hs : screenF R C = false := by simpa using hs
    rw [hs]
    exact wpIf.tt (q0 (.inl hs))
  rw [hs]
  have hRC : 2 ≤ R ∧ R ≤ 512 ∧ 1 ≤ C ∧ C ≤ 512 := of_decide_eq_true hs
  refine wpIf.ff (step_lss (wpIf.dec (fun h1 => q0 (.inr (.inl h1))) (fun h1 => step_geq (wpIf.dec (fun h2 => q0 (.inr (.inr h2))) (fun h2 => ?_)))))
  have q := q hs (by omega) (by omega)
  obtain ⟨N, rfl⟩ : ∃ N : Nat, n = (N : Int) := ⟨n.toNat, by omega⟩
  rw [Int.toNat_natCast] at q
  obtain ⟨S, hS⟩ : ∃ S : Nat, R - 1 = (S : Int) := ⟨(R - 1).toNat, by omega⟩
  rw [hS, Int.toNat_natCast] at q
  have hdm : N * (S / N) + S % N = S := Nat.div_add_mod S N
  have hrN : S % N < N := Nat.mod_lt _ (by omega)
  generalize S / N = d at q hdm
  generalize S % N = r at q hdm hrN
  refine pane_Stripes_c0_wp (step_sub (by omega) (by omega) ?_)
  rw [hS]
  refine ⟨pane_Stripes_l2_m, stI M C d r N, ⟨N, 0, M, .slice none 0 0, ?_, Ext.refl M, .inr ⟨rfl, rfl⟩, Nat.zero_le _, rfl⟩, ?_⟩
  · have e1 : topN d r 0 = 1 := by unfold topN; omega
    have e2 : (N - 0) * d + (r - min 0 r) = S := by rw [Nat.sub_zero]; omega
    rw [e1, e2]; rfl
  rintro k s ⟨i, M', v, rfl, eM, nM0, hi, rfl⟩
  have nM : Mine 34 M M' v (stripesF C d r i) := nM0
  clear nM0
  refine pane_Stripes_l2_wp (I := stI M C d r N) ?_
  have hmid : (N - i) * d ≤ N * d := Nat.mul_le_mul_right _ (by omega)
  have htop : topN d r i ≤ 1 + (N * d + r) := by rw [← top_end d r N hrN]; exact top_mono d r hi
  refine step_gtr (wpIf.dec (fun g1 => ?_) (fun g1 => ?_))
  · have hiN : i < N := by omega
    have hst := st_next (q := d) hrN hiN
    have hl := left_next (q := d) hrN hiN
    have ht := top_succ d r i
    have htop' : topN d r (i + 1) ≤ 1 + (N * d + r) := by rw [← top_end d r N hrN]; exact top_mono d r hiN
    refine step_add (by omega) (by omega) (step_sub (by omega) (by omega) (step_quo64 (by omega) (by omega) (by omega) ?_))
    have hq : ((((N - i) * d + (r - min i r) : Nat) : Int) + ((N - i : Nat) : Int) - 1) / ((N - i : Nat) : Int) = (hgt d r i : Nat) := by
      rw [← hst]
      have : ((((N - i) * d + (r - min i r) : Nat) : Int) + ((N - i : Nat) : Int) - 1) = (((N - i) * d + (r - min i r) + (N - i) - 1 : Nat) : Int) := by omega
      rw [this]; rfl
    rw [hq]
    refine ⟨(stF C d r i).val, rfl, rfl, fun b6 M7 hb6 hM7 => ⟨⟨rfl, rfl, by decide⟩, fun M8 hM8 => ?_⟩⟩
    have f7 : Ext M' M7 := Ext.push' hM7
    have s7 : M7.size = M'.size + 1 := by rw [hM7]; rfl
    have f8 : Ext M' M8 := hM8 ▸ f7.set (by omega) (by omega) _
    have s8 : M8.size = M7.size := by rw [hM8]; rfl
    refine LGet.mk (v := .int .i64 (hgt d r i : Nat)) rfl (step_add (by omega) (by omega) (LGet.mk (v := .int .i64 (hgt d r i : Nat)) rfl (step_sub (by omega) (by omega) ?_)))
    refine LGetN.as (stF C d r i).val (by exact Nat.le_refl 4) rfl (step_lit [stF C d r i] rfl rfl fun v14 M15 f15 n15 => ⟨f15.keep _, ?_⟩)
    have f815 := f8.trans f15
    have hblk : blk v ≠ some b6 := by
      rcases nM with ⟨b, sp, rfl, g, _⟩ | ⟨_, rfl⟩
      · have := Mem.lt_of_get g
        intro e
        have : b = b6 := Option.some.inj e
        omega
      · intro e; cases e
    refine step_appM (eM.trans f815) hM (nM.ext f815) n15.sl.srcs (by simp [stripesF]; omega) (by simp [stripesF]; omega) fun v16 M17 f17 n17 same => ⟨fun b hb hlt => ?_, step_sub (by omega) (by omega) ⟨N - (i + 1), by omega, i + 1, M17, v16, ?_, f17, ?_, by omega, rfl⟩⟩
    · rw [List.mem_singleton] at hb
      subst hb
      exact same _ hlt hblk
    · rw [show ((N - i : Nat) : Int) - 1 = ((N - (i + 1) : Nat) : Int) by omega, show ((topN d r i : Nat) : Int) + (hgt d r i : Nat) = ((topN d r (i + 1) : Nat) : Int) by omega, show (((N - i) * d + (r - min i r) : Nat) : Int) - (hgt d r i : Nat) = (((N - (i + 1)) * d + (r - min (i + 1) r) : Nat) : Int) by omega]
    · have : stripesF C d r (i + 1) = stripesF C d r i ++ [stF C d r i] := by simp [stripesF, List.range_succ]
      rw [this]; exact n17
  · have : i = N := by omega
    subst this
    exact pane_Stripes_l2_out (pane_Stripes_c1_wp (q M' v eM nM))
end

/-! ### Stripes cover the screen, each place once -/

theorem stripes_get (C : Int) (q r n i : Nat) (hi : i < n) : (stripesF C q r n)[i]? = some (stF C q r i) := by simp [stripesF, hi]
theorem stripes_mem {C : Int} {q r n : Nat} {a : Rc} : a ∈ stripesF C q r n ↔ ∃ i, i < n ∧ a = stF C q r i := by
  simp only [stripesF, List.mem_map, List.mem_range]
  exact ⟨fun ⟨i, h, e⟩ => ⟨i, h, e.symm⟩, fun ⟨i, h, e⟩ => ⟨i, h, e.symm⟩⟩
structure Cut (R C : Int) (q r n : Nat) : Prop where
  scr : 2 ≤ R ∧ R ≤ 512 ∧ 1 ≤ C ∧ C ≤ 512
  n1 : 1 ≤ n
  q1 : 1 ≤ q
  rn : r < n
  sum : R - 1 = ((n * q + r : Nat) : Int)
theorem stripes_in {R C : Int} {q r n : Nat} (h : Cut R C q r n) {i : Nat} (hi : i < n) : inF R C (stF C q r i) = true := by
  have h1 := top_succ q r i
  have h2 : topN q r (i + 1) ≤ topN q r n := top_mono q r hi
  rw [top_end q r n h.rn] at h2
  have h3 : 1 ≤ topN q r i := by unfold topN; omega
  have h4 : 1 ≤ hgt q r i := by have := h.q1; unfold hgt; omega
  have := h.scr
  have := h.sum
  unfold inF stF
  apply decide_eq_true
  simp only
  omega
theorem stripes_check {R C : Int} {q r n : Nat} (h : Cut R C q r n) : checkF R C (stripesF C q r n) = 0 := by
  have hs : screenF R C = true := decide_eq_true h.scr
  unfold checkF
  rw [if_pos hs, if_pos]
  rw [Bool.and_eq_true]
  constructor
  · rw [List.all_eq_true]
    intro a ha
    obtain ⟨i, hi, rfl⟩ := stripes_mem.1 ha
    exact stripes_in h hi
  · rw [apartF_iff]
    intro x y a b ha hb hxy
    have hx : x < n := by have := (List.getElem?_eq_some_iff.1 ha).1; simpa [stripesF] using this
    rw [stripes_get C q r n x hx] at ha
    rw [stripes_get C q r n y (by omega)] at hb
    cases ha; cases hb
    have h1 := top_succ q r y
    have h2 : topN q r (y + 1) ≤ topN q r x := top_mono q r hxy
    unfold meetF spanF stF
    rw [Bool.and_eq_false_iff]
    left
    apply decide_eq_false
    simp only
    omega
theorem find_stripe (q r : Nat) : ∀ (n x : Nat), 1 ≤ x → x < topN q r n → ∃ i, i < n ∧ topN q r i ≤ x ∧ x < topN q r (i + 1) := by
  intro n
  induction n with
  | zero => intro x h1 h2; unfold topN at h2; omega
  | succ n ih =>
    intro x h1 h2
    by_cases h : x < topN q r n
    · obtain ⟨i, h3, h4⟩ := ih x h1 h
      exact ⟨i, by omega, h4⟩
    · exact ⟨n, by omega, by omega, h2⟩
/-- a set of all places below row 0 -/
theorem count_all {R C : Int} (hR : 1 ≤ R) (hC : 1 ≤ C) {T : List Ps} (hn : T.Nodup) (hm : ∀ p : Ps, p ∈ T ↔ (1 ≤ p.1 ∧ p.1 < R) ∧ 0 ≤ p.2 ∧ p.2 < C) : (T.length : Int) = (R - 1) * C := by
  obtain ⟨S, hS⟩ : ∃ S : Nat, R - 1 = (S : Int) := ⟨(R - 1).toNat, by omega⟩
  obtain ⟨D, rfl⟩ : ∃ D : Nat, C = (D : Int) := ⟨C.toNat, by omega⟩
  have hD : 0 < D := by omega
  let G : List Ps := (List.range (S * D)).map fun n => (((1 + n / D : Nat) : Int), ((n % D : Nat) : Int))
  have hG : G.Nodup := by
    refine List.Pairwise.map _ ?_ List.nodup_range
    intro a b hab e
    simp only [Prod.mk.injEq] at e
    have e1 : a / D = b / D := by omega
    have e2 : a % D = b % D := by omega
    have := Nat.div_add_mod a D
    have := Nat.div_add_mod b D
    rw [e1, e2] at *
    omega
  have hp : T.Perm G := by
    rw [List.perm_ext_iff_of_nodup hn hG]
    intro p
    rw [hm]
    simp only [G, List.mem_map, List.mem_range]
    obtain ⟨x, y⟩ := p
    simp only
    constructor
    · rintro ⟨⟨h1, h2⟩, h3, h4⟩
      obtain ⟨a, rfl⟩ : ∃ a : Nat, x = ((1 + a : Nat) : Int) := ⟨(x - 1).toNat, by omega⟩
      obtain ⟨b, rfl⟩ : ∃ b : Nat, y = (b : Int) := ⟨y.toNat, by omega⟩
      have hb : b < D := by omega
      have ha : a + 1 ≤ S := by omega
      have e1 : (a * D + b) / D = a := by rw [Nat.mul_comm, Nat.mul_add_div hD, Nat.div_eq_of_lt hb]; omega
      have e2 : (a * D + b) % D = b := by rw [Nat.mul_comm, Nat.mul_add_mod, Nat.mod_eq_of_lt hb]
      refine ⟨a * D + b, ?_, by rw [e1, e2]⟩
      have : (a + 1) * D ≤ S * D := Nat.mul_le_mul_right _ ha
      rw [Nat.add_mul] at this; omega
    · rintro ⟨n, hn, e⟩
      simp only [Prod.mk.injEq] at e
      have h1 : n / D < S := (Nat.div_lt_iff_lt_mul hD).2 hn
      have h2 : n % D < D := Nat.mod_lt _ hD
      obtain ⟨e1, e2⟩ := e
      generalize n / D = a at *
      generalize n % D = b at *
      omega
  rw [hp.length_eq, hS]
  simp [G]
theorem stripes_free {R C : Int} {q r n : Nat} (h : Cut R C q r n) {T : List Ps} (hT : TakenBy R C (stripesF C q r n) T) : (T.length : Int) = (R - 1) * C := by
  have := h.scr
  have hsum := h.sum
  have hs : screenF R C = true := decide_eq_true h.scr
  refine count_all (by omega) (by omega) hT.1 fun p => ?_
  rw [hT.2]
  have hclip : ∀ i, i < n → clipF (stF C q r i) R C = stF C q r i := fun i hi => by
    have hin := stripes_in h hi
    have h1 := of_decide_eq_true hin
    have hok : (stF C q r i).ok := by unfold Rc.ok I64; omega
    exact (clip_in hok hs ⟨by omega, by omega, by omega⟩).2 hin
  constructor
  · rintro ⟨h0, a, ha, hc⟩
    obtain ⟨i, hi, rfl⟩ := stripes_mem.1 ha
    rw [hclip i hi] at hc
    have h1 := of_decide_eq_true (stripes_in h hi)
    unfold hasC at hc
    omega
  · rintro ⟨⟨h1, h2⟩, h3, h4⟩
    have he := top_end q r n h.rn
    obtain ⟨i, hi, i1, i2⟩ := find_stripe q r n p.1.toNat (by omega) (by omega)
    rw [top_succ] at i2
    refine ⟨by omega, _, stripes_mem.2 ⟨i, hi, rfl⟩, ?_⟩
    rw [hclip i hi]
    unfold hasC stF
    simp only
    omega

section
variable {M : Mem} {Q : Value → Mem → Prop}
theorem worksP_W {M : Mem} (h : Q (.bool true) M) : W funs known (.func (.func n_law26_works) #[] #[]) [] M Q := W_known rfl h
abbrev s2I (M : Mem) (R C : Int) (n : Nat) (v : Value) (b1 : Nat) (e0 e1 e2 : Value) : Nat → LS → Prop := fun k s => ∃ (i : Nat), s = law26_PaneStripes_l2_s (.int .i64 R) (.int .i64 C) (.int .i64 n) v (.int .i64 i) b1 e0 e1 e2 [] M ∧ i ≤ n ∧ k = n - i

set_option maxHeartbeats 1000000 in
theorem stripesLaw_W (hM : M.base ≤ M.size) {y0 y1 y2 : Int} (h0 : 0 ≤ y0 ∧ y0 ≤ 65535) (h1 : 0 ≤ y1 ∧ y1 ≤ 65535) (h2 : -128 ≤ y2 ∧ y2 ≤ 127) (q : ∀ M', Q (.bool true) M') : W funs known (.func (.func n_law26_PaneStripes) #[] #[]) [.agg #[.int .u16 y0, .int .u16 y1, .int .i8 y2]] M Q := by
  refine law26_PaneStripes_wp hM ⟨rfl, fun b1 M2 hb1 hM2 => worksP_W ⟨KeepB.refl _ _, _, rfl, wpIf.ff ?_⟩⟩
  have e2 : Ext M M2 := Ext.push' hM2
  have k2 := e2.ok hM
  refine step_rem16 (by omega) (by omega) (step_conv (IntWalk.i64_in _ (by omega)) (step_add (by omega) (by omega) (step_rem16 (by omega) (by omega) (step_conv (IntWalk.i64_in _ (by omega)) (step_add (by omega) (by omega) (step_conv (IntWalk.i64_in _ (by omega)) (step_add (by omega) (by omega) (step_sub (by omega) (by omega) (step_rem64 (by omega) (by omega) ?_)))))))))
  have hR : 2 ≤ 2 + y0 % 60 ∧ 2 + y0 % 60 ≤ 61 := by omega
  have hC : 1 ≤ 1 + y1 % 40 ∧ 1 + y1 % 40 ≤ 40 := by omega
  generalize 2 + y0 % 60 = R at *
  generalize 1 + y1 % 40 = C at *
  have hmod : 0 ≤ (y2 + 128) % (R - 1) ∧ (y2 + 128) % (R - 1) < R - 1 := ⟨Int.emod_nonneg _ (by omega), Int.emod_lt_of_pos _ (by omega)⟩
  generalize (y2 + 128) % (R - 1) = z at *
  have hs : screenF R C = true := decide_eq_true ⟨by omega, by omega, by omega, by omega⟩
  refine step_add (by omega) (by omega) ?_
  obtain ⟨n, hn⟩ : ∃ n : Nat, 1 + z = (n : Int) := ⟨(1 + z).toNat, by omega⟩
  rw [hn]
  have none' : ∀ {N : Mem} {P : Value → Mem → Prop} {n : Int}, N.base ≤ N.size → (n < 1 ∨ n ≥ R) → P (.slice none 0 0) N → W funs known (.func (.func n_pane_Stripes) #[] #[]) [.int .i64 R, .int .i64 C, .int .i64 n] N P := fun {N P n} hN hn p =>
    stripes_W hN (fun _ => p) (fun _ a b => absurd hn (by omega))
  refine stripes_W k2 (fun h => by rcases h with h | h | h; rw [hs] at h; cases h; omega; omega) fun _ _ _ M18 v e18 m18 => ⟨e18.keep _, ?_⟩
  rw [Int.toNat_natCast] at m18
  obtain ⟨S, hS⟩ : ∃ S : Nat, R - 1 = (S : Int) := ⟨(R - 1).toNat, by omega⟩
  rw [hS, Int.toNat_natCast] at m18
  have hdm : n * (S / n) + S % n = S := Nat.div_add_mod S n
  have hrN : S % n < n := Nat.mod_lt _ (by omega)
  have hq1 : 1 ≤ S / n := (Nat.le_div_iff_mul_le (by omega)).2 (by omega)
  generalize S / n = d at m18 hdm hq1
  generalize S % n = r at m18 hdm hrN
  have hcut : Cut R C d r n := ⟨⟨by omega, by omega, by omega, by omega⟩, by omega, hq1, hrN, by omega⟩
  have hlen : (stripesF C d r n).length = n := by simp [stripesF]
  have hok : ∀ a ∈ stripesF C d r n, a.ok := fun a ha => by
    obtain ⟨i, hi, rfl⟩ := stripes_mem.1 ha
    have := of_decide_eq_true (stripes_in hcut hi)
    unfold Rc.ok I64; omega
  have k18 := e18.ok k2
  refine step_lenS m18.sl (s_neF (by rw [hlen]; omega) (wpIf.ff ?_))
  refine check_W k18 m18.sl hok (by rw [hlen]; omega) ⟨by omega, by omega⟩ ⟨by omega, by omega⟩ fun M22 e22 => ⟨e22.keep _, ?_⟩
  rw [stripes_check hcut]
  refine step_neq (wpIf.dec (fun h => absurd rfl h) (fun _ => ?_))
  have k22 := e22.ok k18
  refine free_W k22 (m18.sl.ext e22) hok (by rw [hlen]; omega) (fun h => by rw [hs] at h; cases h) fun _ M25 e25 T hT => ⟨e25.keep _, ?_⟩
  rw [stripes_free hcut hT, Int.sub_self]
  refine step_neq (wpIf.dec (fun h => absurd rfl h) (fun _ => ?_))
  have sl := (m18.sl.ext e22).ext e25
  have k25 := e25.ok k22
  refine law26_PaneStripes_c0_wp ⟨law26_PaneStripes_l2_m, s2I M25 R C n v b1 (.int .u16 y0) (.int .u16 y1) (.int .i8 y2), ⟨n, 0, rfl, Nat.zero_le _, rfl⟩, ?_⟩
  rintro k s ⟨i, rfl, hi, rfl⟩
  refine law26_PaneStripes_l2_wp (I := s2I M25 R C n v b1 (.int .u16 y0) (.int .u16 y1) (.int .i8 y2)) ?_
  refine step_lss (wpIf.dec (fun g1 => ?_) (fun g1 => ?_))
  · have hiN : i < n := by omega
    have hg := stripes_get C d r n i hiN
    have hg0 := stripes_get C d r n 0 (by omega)
    have hh : hgt d r 0 - hgt d r i ≤ 1 ∧ hgt d r i ≤ hgt d r 0 := by
      unfold hgt
      split <;> split <;> omega
    refine rd_f sl (by omega) (by rw [Int.toNat_natCast]; exact hg) (f := 3) rfl fun _ _ => s_neF (not_not_intro rfl) (wpIf.ff ?_)
    refine rd_f sl (by omega) (by rw [Int.toNat_natCast]; exact hg) (f := 1) rfl fun _ _ => s_neF (not_not_intro rfl) (wpIf.ff ?_)
    refine step_gtr (wpIf.dec (fun g2 => ?_) (fun g2 => ?_))
    · have hg1 := stripes_get C d r n (i - 1) (by omega)
      have hi1 : ((i : Int) - 1).toNat = i - 1 := by omega
      have ht := top_succ d r (i - 1)
      rw [show i - 1 + 1 = i by omega] at ht
      have hh1 : hgt d r i ≤ hgt d r (i - 1) := by unfold hgt; split <;> split <;> omega
      refine rd_f sl (by omega) (by rw [Int.toNat_natCast]; exact hg) (f := 2) (x := .int .i64 (hgt d r i : Nat)) rfl fun _ _ => step_sub (by omega) (by omega) ?_
      refine rd_f sl (by omega) (by rw [hi1]; exact hg1) (f := 2) (x := .int .i64 (hgt d r (i - 1) : Nat)) rfl fun _ _ => s_gtF (by omega) (wpIf.ff ?_)
      refine rd_f sl (by omega) (by rw [Int.toNat_natCast]; exact hg) (f := 0) (x := .int .i64 (topN d r i : Nat)) rfl fun _ _ => step_sub (by omega) (by omega) ?_
      refine rd_f sl (by omega) (by rw [hi1]; exact hg1) (f := 0) (x := .int .i64 (topN d r (i - 1) : Nat)) rfl fun _ _ => step_sub (by omega) (by omega) ?_
      have hb : topN d r i ≤ topN d r n := top_mono d r (by omega)
      rw [top_end d r n hrN] at hb
      refine rd_f sl (by omega) (by rw [hi1]; exact hg1) (f := 2) (x := .int .i64 (hgt d r (i - 1) : Nat)) rfl fun _ _ => step_add (by omega) (by omega) (s_neF (by omega) (wpIf.ff ?_))
      have hbd : hgt d r 0 ≤ d + 1 := by unfold hgt; split <;> omega
      have hd : d ≤ n * d := Nat.le_mul_of_pos_left _ (by omega)
      refine rd_f (i := 0) sl (by omega) hg0 (f := 2) (x := .int .i64 (hgt d r 0 : Nat)) rfl fun _ _ => rd_f sl (by omega) (by rw [Int.toNat_natCast]; exact hg) (f := 2) (x := .int .i64 (hgt d r i : Nat)) rfl fun _ _ => step_sub (by omega) (by omega) (s_gtF (by omega) (wpIf.ff ?_))
      exact step_add (by omega) (by omega) ⟨n - (i + 1), by omega, i + 1, rfl, by omega, rfl⟩
    · have hbd : hgt d r 0 ≤ d + 1 := by unfold hgt; split <;> omega
      have hd : d ≤ n * d := Nat.le_mul_of_pos_left _ (by omega)
      refine rd_f (i := 0) sl (by omega) hg0 (f := 2) (x := .int .i64 (hgt d r 0 : Nat)) rfl fun _ _ => rd_f sl (by omega) (by rw [Int.toNat_natCast]; exact hg) (f := 2) (x := .int .i64 (hgt d r i : Nat)) rfl fun _ _ => step_sub (by omega) (by omega) (s_gtF (by omega) (wpIf.ff ?_))
      exact step_add (by omega) (by omega) ⟨n - (i + 1), by omega, i + 1, rfl, by omega, rfl⟩
  · refine law26_PaneStripes_l2_out (law26_PaneStripes_c1_wp ?_)
    refine none' k25 (.inl (by omega)) ⟨KeepB.refl _ _, step_len (s_eqT rfl (wpIf.tt ?_))⟩
    exact none' k25 (.inr (by omega)) ⟨KeepB.refl _ _, step_len (s_eqT rfl (q _))⟩
end
end Go.Proofs.Ytacabjkhhejjcaa.Run
