/- The law PaneApart of chapter 26, as a run of this session's own interpreter. -/
import Derived.Test.YtacabjkhhejjcaaAt
import Derived.Test.YtacabjkhhejjcaaVcA
namespace Go.Proofs.Ytacabjkhhejjcaa.Run
open Go Go.RowKit
set_option linter.unusedVariables false
set_option linter.unusedSimpArgs false

theorem check0 {R C : Int} {L : List Rc} : checkF R C L = 0 ↔ screenF R C = true ∧ (∀ a ∈ L, inF R C a = true) ∧ apartF L = true := by
  unfold checkF
  by_cases hs : screenF R C = true
  · rw [if_pos hs]
    by_cases h : (L.all (inF R C) && apartF L) = true
    · rw [if_pos h]
      rw [Bool.and_eq_true, List.all_eq_true] at h
      exact ⟨fun _ => ⟨hs, h.1, h.2⟩, fun _ => rfl⟩
    · rw [if_neg h]
      refine ⟨fun h' => (by cases h'), fun ⟨_, h1, h2⟩ => absurd ?_ h⟩
      rw [Bool.and_eq_true, List.all_eq_true]
      exact ⟨h1, h2⟩
  · rw [if_neg hs]
    exact ⟨fun h => (by cases h), fun h => absurd h.1 hs⟩
theorem meet_comm (a b : Rc) : meetF a b = meetF b a := by
  unfold meetF spanF
  rw [Bool.eq_iff_iff]
  simp only [Bool.and_eq_true, decide_eq_true_eq]
  omega
theorem apart_rev {L : List Rc} (h : apartF L = true) : apartF L.reverse = true := by
  refine decide_eq_true ?_
  rw [List.pairwise_reverse]
  refine (of_decide_eq_true h).imp fun {a b} hab => ?_
  rw [meet_comm]; exact hab
theorem check_rev {R C : Int} {L : List Rc} (h : checkF R C L = 0) : checkF R C L.reverse = 0 := by
  obtain ⟨h1, h2, h3⟩ := check0.1 h
  exact check0.2 ⟨h1, fun a ha => h2 a (List.mem_reverse.1 ha), apart_rev h3⟩
theorem sum_bound {R C : Int} : ∀ (L : List Rc), (∀ a ∈ L, inF R C a = true) → 0 ≤ sumRC L ∧ sumRC L ≤ L.length * 262144
  | [], _ => by simp [sumRC]
  | a :: L, h => by
    have ih := sum_bound L fun b hb => h b (List.mem_cons_of_mem _ hb)
    have ha := of_decide_eq_true (h a List.mem_cons_self)
    have h1 : 0 ≤ a.r * a.c := Int.mul_nonneg (by omega) (by omega)
    have h2 : a.r * a.c ≤ 512 * 512 := Int.mul_le_mul (by omega) (by omega) (by omega) (by omega)
    rw [sum_cons, List.length_cons]
    omega
theorem free_small {R C : Int} (hR : R ≤ 512) (hC : C ≤ 512) {G : List Rc} {i k : Int} {U : List Ps} (h : FreeTo R C G i k U) : U.length ≤ 512 * 512 := by
  have : U ⊆ (List.range 512).flatMap fun i => (List.range 512).map fun k => (((i : Nat) : Int), ((k : Nat) : Int)) := fun p hp => by
    obtain ⟨h1, _⟩ := (h.2 p).1 hp
    simp only [List.mem_flatMap, List.mem_range, List.mem_map]
    refine ⟨p.1.toNat, by omega, p.2.toNat, by omega, ?_⟩
    obtain ⟨p1, p2⟩ := p
    simp only at *
    rw [Int.toNat_of_nonneg (by omega), Int.toNat_of_nonneg (by omega)]
  refine Nat.le_trans (h.1.length_le_of_subset this) ?_
  rw [rows_len (fun i k => (((i : Nat) : Int), ((k : Nat) : Int)))]; exact Nat.le_refl _
theorem s_posSame {P : Value → Prop} {a : Ps} (p : P (.bool false)) : ∃ v, binV .neq 2 [0, 0] (posV a) (posV a) = some v ∧ P v := by
  refine ⟨.bool false, ?_, p⟩
  show (eqV true [0, 0] (posV a) (posV a)).bind (negIf .neq) = _
  rw [eqPos, decide_eq_true rfl]; rfl

section
variable {M : Mem} {Q : Value → Mem → Prop}
abbrev a2I (P : Mem) (R C : Int) (G : List Rc) (v : Value) (b1 : Nat) (e0 e1 e2 : Value) : Nat → LS → Prop := fun k s => ∃ (j : Nat) (M' : Mem) (w : Value), s = law26_PaneApart_l2_s (.int .i64 R) (.int .i64 C) v w (.int .i64 (sumRC (G.drop (G.length - j)))) (.int .i64 ((G.length : Int) - 1 - (j : Nat))) b1 e0 e1 e2 [] M' ∧ Ext P M' ∧ Mine 34 P M' w (G.drop (G.length - j)).reverse ∧ j ≤ G.length ∧ k = G.length - j
abbrev a4I (P : Mem) (R C : Int) (G : List Rc) (v w : Value) (b1 : Nat) (e0 e1 e2 : Value) : Nat → LS → Prop := fun k s => ∃ (i : Nat) (M' : Mem) (U : List Ps), s = law26_PaneApart_l4_s (.int .i64 R) (.int .i64 C) v w (.int .i64 (sumRC G)) (.int .i64 U.length) (.int .i64 i) b1 e0 e1 e2 [] M' ∧ Ext P M' ∧ FreeTo R C G i 0 U ∧ (i : Int) ≤ R ∧ k = R.toNat - i
abbrev a6I (P : Mem) (R C : Int) (G : List Rc) (v w : Value) (b1 : Nat) (e0 e1 e2 : Value) (i : Nat) : Nat → LS → Prop := fun k s => ∃ (c : Nat) (M' : Mem) (U : List Ps), s = law26_PaneApart_l6_s (.int .i64 R) (.int .i64 C) v w (.int .i64 (sumRC G)) (.int .i64 U.length) (.int .i64 i) (.int .i64 c) b1 e0 e1 e2 [] M' ∧ Ext P M' ∧ FreeTo R C G i c U ∧ (c : Int) ≤ C ∧ k = C.toNat - c
abbrev a11I (P : Mem) (R C : Int) (G : List Rc) (v w : Value) (b1 : Nat) (e0 e1 e2 : Value) (i c : Nat) (n : Int) (f : Value) (b3 : Nat) : Nat → LS → Prop := fun k s => ∃ (m : Nat) (M' : Mem), s = law26_PaneApart_l11_s (.int .i64 R) (.int .i64 C) v w (.int .i64 (sumRC G)) f (.int .i64 i) (.int .i64 c) (.int .i64 n) (.int .i64 (if 0 ≤ n ∧ n < m then 1 else 0)) (.int .i64 m) b1 e0 e1 e2 b3 [.int .i64 i, .int .i64 c] [] M' ∧ Ext P M' ∧ m ≤ G.length ∧ k = G.length - m

theorem at_rev {G : List Rc} (hap : apartF G = true) {i k n b : Int} (hn : AtIs G i k n) (hb : AtIs G.reverse i k b) : (n = -1 ∧ b = -1) ∨ ∃ (j : Nat) (a : Rc), n = j ∧ j < G.length ∧ G[j]? = some a ∧ hasF a i k = true ∧ b = (G.length : Int) - 1 - (j : Nat) := by
  rcases hn with ⟨rfl, hn⟩ | ⟨j, a, rfl, hj, ha, _⟩
  · rcases hb with ⟨rfl, _⟩ | ⟨x, c, _, hx, hc, _⟩
    · exact .inl ⟨rfl, rfl⟩
    · have := hn c (List.mem_reverse.1 (List.mem_of_getElem? hx))
      rw [hc] at this; cases this
  · have hlt := (List.getElem?_eq_some_iff.1 hj).1
    rcases hb with ⟨_, hb⟩ | ⟨x, c, rfl, hx, hc, _⟩
    · have := hb a (List.mem_reverse.2 (List.mem_of_getElem? hj))
      rw [ha] at this; cases this
    · have hxl : x < G.length := by have := (List.getElem?_eq_some_iff.1 hx).1; simpa using this
      rw [List.getElem?_reverse hxl] at hx
      have := apart_uniq hap hj hx ha hc
      exact .inr ⟨j, a, rfl, hlt, hj, ha, by omega⟩

set_option maxHeartbeats 4000000 in
theorem apartLaw_W (hM : M.base ≤ M.size) {dv : Value} {D : List Dr} (hD : Sl M dv D) (okD : ∀ d ∈ D, d.ok) {y0 y1 y2 : Int} (h0 : 0 ≤ y0 ∧ y0 ≤ 65535) (h1 : 0 ≤ y1 ∧ y1 ≤ 65535) (q : ∀ M', Q (.bool true) M') : W funs known (.func (.func n_law26_PaneApart) #[] #[]) [dv, .agg #[.int .u16 y0, .int .u16 y1, .int .i8 y2]] M Q := by
  obtain ⟨a0, c0, rfl⟩ := hD.shape
  refine law26_PaneApart_wp hM ⟨rfl, fun b1 P hb1 hP => worksP_W ⟨KeepB.refl _ _, _, rfl, wpIf.ff ?_⟩⟩
  have eP : Ext M P := Ext.push' hP
  have sP : P.size = M.size + 1 := by rw [hP]; rfl
  have kP := eP.ok hM
  refine step_rem16 (by omega) (by omega) (step_conv (IntWalk.i64_in _ (by omega)) (step_add (by omega) (by omega) (step_rem16 (by omega) (by omega) (step_conv (IntWalk.i64_in _ (by omega)) (step_add (by omega) (by omega) ?_)))))
  have hR : 2 ≤ 2 + y0 % 14 ∧ 2 + y0 % 14 ≤ 15 := by omega
  have hC : 1 ≤ 1 + y1 % 16 ∧ 1 + y1 % 16 ≤ 16 := by omega
  generalize 2 + y0 % 14 = R at *
  generalize 1 + y1 % 16 = C at *
  have hs : screenF R C = true := decide_eq_true ⟨by omega, by omega, by omega, by omega⟩
  refine drawn_W kP (hD.ext eP) okD fun M13 o G0 e13 m13 sm len => ⟨e13.keep _, ?_⟩
  have k13 := e13.ok kP
  refine kept_W k13 m13.sl (fun a ha => (sm a ha).ok) (by omega) fun M15 v G e15 m15 sub len2 chk => ⟨e15.keep _, ?_⟩
  have chk := chk hs
  obtain ⟨_, hinG, hapG⟩ := check0.1 chk
  have hokG : ∀ a ∈ G, a.ok := fun a ha => (sm a (sub a ha)).ok
  have k15 := e15.ok k13
  have lG : G.length ≤ 10 := by omega
  refine check_W k15 m15.sl hokG (by omega) ⟨by omega, by omega⟩ ⟨by omega, by omega⟩ fun M17 e17 => ⟨e17.keep _, ?_⟩
  rw [chk]
  refine step_neq (wpIf.dec (fun h => absurd rfl h) (fun _ => ?_))
  have k17 := e17.ok k15
  refine apart_W k17 (m15.sl.ext e17) hokG (by omega) fun M20 e20 => ⟨e20.keep _, _, rfl, ?_⟩
  rw [hapG]
  refine wpIf.ff (law26_PaneApart_c0_wp ?_)
  have slG : Sl M20 v G := (m15.sl.ext e17).ext e20
  have f20 : Ext P M20 := ((e13.trans e15).trans e17).trans e20
  have k20 := f20.ok kP
  refine step_lenS slG (step_sub (by omega) (by omega) ?_)
  refine ⟨law26_PaneApart_l2_m, a2I M20 R C G v b1 (.int .u16 y0) (.int .u16 y1) (.int .i8 y2), ⟨G.length, 0, M20, .slice none 0 0, ?_, Ext.refl _, ?_, Nat.zero_le _, rfl⟩, ?_⟩
  · rw [Nat.sub_zero, List.drop_length, show ((G.length : Int) - 1 - ((0 : Nat) : Int)) = (G.length : Int) - 1 by omega]; rfl
  · rw [Nat.sub_zero, List.drop_length]; exact .inr ⟨rfl, rfl⟩
  rintro k s ⟨j, M', w, rfl, eM, mw0, hj, rfl⟩
  have mw : Mine 34 M20 M' w (G.drop (G.length - j)).reverse := mw0
  clear mw0
  refine law26_PaneApart_l2_wp (I := a2I M20 R C G v b1 (.int .u16 y0) (.int .u16 y1) (.int .i8 y2)) ?_
  refine step_geq (wpIf.dec (fun g1 => ?_) (fun g1 => ?_))
  · obtain ⟨t, ht⟩ : ∃ t : Nat, G.length - j = t + 1 := ⟨G.length - j - 1, by omega⟩
    have ht' : G.length - (j + 1) = t := by omega
    rw [show (G.length : Int) - 1 - (j : Nat) = (t : Int) by omega]
    obtain ⟨a, ha⟩ : ∃ a, G[t]? = some a := ⟨_, List.getElem?_eq_getElem (by omega)⟩
    have hdrop : G.drop t = a :: G.drop (t + 1) := by
      obtain ⟨_, rfl⟩ := List.getElem?_eq_some_iff.1 ha
      exact List.drop_eq_getElem_cons _
    have hin := of_decide_eq_true (hinG a (List.mem_of_getElem? ha))
    have hb := sum_bound (R := R) (C := C) (G.drop (t + 1)) fun b hb => hinG b (List.mem_of_mem_drop hb)
    have hbl : (G.drop (t + 1)).length ≤ 10 := by rw [List.length_drop]; omega
    have h3 : 0 ≤ a.r * a.c := Int.mul_nonneg (by omega) (by omega)
    have h4 : a.r * a.c ≤ 512 * 512 := Int.mul_le_mul (by omega) (by omega) (by omega) (by omega)
    rw [ht] at mw ⊢
    refine rd (slG.ext eM) (by omega) (by rw [Int.toNat_natCast]; exact ha) fun _ => step_lit [a] rfl rfl fun v4 M5 e5 n5 => ⟨e5.keep _, ?_⟩
    refine step_appM (eM.trans e5) k20 (mw.ext e5) n5.sl.srcs (by simp; omega) (by simp; omega) fun v6 M7 e7 n7 _ => ⟨keepE (by have := f20.size; omega) (eM.trans e5) e7, ?_⟩
    refine rd_f (slG.ext e7) (by omega) (by rw [Int.toNat_natCast]; exact ha) (f := 2) rfl fun _ _ => rd_f (slG.ext e7) (by omega) (by rw [Int.toNat_natCast]; exact ha) (f := 3) rfl fun _ _ => step_mul (by omega) (by omega) (step_add (by omega) (by omega) ?_)
    refine rd (slG.ext e7) (by omega) (by rw [Int.toNat_natCast]; exact ha) fun _ => in_W (e7.ok k20) (hokG a (List.mem_of_getElem? ha)) ⟨by omega, by omega⟩ ⟨by omega, by omega⟩ fun M19 e19 => ⟨e19.keep _, _, rfl, ?_⟩
    rw [hinG a (List.mem_of_getElem? ha)]
    refine wpIf.ff (step_sub (by omega) (by omega) ⟨G.length - (j + 1), by omega, j + 1, M19, v6, ?_, e7.trans e19, ?_, by omega, rfl⟩)
    · rw [ht', hdrop, sum_cons, show (G.length : Int) - 1 - ((j + 1 : Nat) : Int) = (t : Int) - 1 by omega, Int.add_comm (a.r * a.c)]
    · rw [ht', hdrop, List.reverse_cons]; exact n7.ext e19
  have hjG : j = G.length := by omega
  subst hjG
  rw [Nat.sub_self, List.drop_zero] at mw
  refine law26_PaneApart_l2_out (law26_PaneApart_c1_wp ?_)
  rw [Nat.sub_self, List.drop_zero]
  have slB : Sl M' w G.reverse := mw.sl
  have slG : Sl M' v G := slG.ext eM
  have kM' := eM.ok k20
  have zM' : b1 < M'.size := by have := f20.size; have := eM.size; omega
  have hsb := sum_bound (R := R) (C := C) G hinG
  clear mw g1 hj
  refine ⟨law26_PaneApart_l4_m, a4I M' R C G v w b1 (.int .u16 y0) (.int .u16 y1) (.int .i8 y2), ⟨R.toNat, 0, M', [], rfl, Ext.refl _, ⟨List.nodup_nil, fun p => by simp only [List.not_mem_nil, false_iff]; omega⟩, by omega, rfl⟩, ?_⟩
  rintro k s ⟨i, M4, U, rfl, e4, hU, hiR, rfl⟩
  refine law26_PaneApart_l4_wp (I := a4I M' R C G v w b1 (.int .u16 y0) (.int .u16 y1) (.int .i8 y2)) ?_
  refine step_lss (wpIf.dec (fun g1 => ?_) (fun g1 => ?_))
  · refine ⟨law26_PaneApart_l6_m, a6I M' R C G v w b1 (.int .u16 y0) (.int .u16 y1) (.int .i8 y2) i, ⟨C.toNat, 0, M4, U, rfl, e4, hU, by omega, rfl⟩, ?_⟩
    clear hU e4
    rintro k s ⟨c, M6, U, rfl, e6, hU, hcC, rfl⟩
    refine law26_PaneApart_l6_wp (I := a6I M' R C G v w b1 (.int .u16 y0) (.int .u16 y1) (.int .i8 y2) i) ?_
    have hsm := free_small (by omega) (by omega) hU
    refine step_lss (wpIf.dec (fun g2 => ?_) (fun g2 => ?_))
    · refine ⟨posV ((i : Int), (c : Int)), rfl, rfl, fun b3 N4 hb3 hN4 => ⟨⟨rfl, rfl, by decide⟩, fun N5 hN5 => LGetN.as (posV ((i : Int), (c : Int))) (by exact Nat.le_refl 2) rfl ?_⟩⟩
      have g4 : Ext M6 N4 := Ext.push' hN4
      have t4 : N4.size = M6.size + 1 := by rw [hN4]; rfl
      have g5 : Ext M6 N5 := hN5 ▸ g4.set (by omega) (by omega) _
      have e5 := e6.trans g5
      refine at_W (freeze_ok _) (slG.ext e5).freeze hokG (by omega) ⟨by omega, by omega⟩ ⟨by omega, by omega⟩ fun N8 n e8 hn => ⟨e8.keepF _, LGetN.as (posV ((i : Int), (c : Int))) (by exact Nat.le_refl 2) rfl ?_⟩
      have e58 := Ext.thaw e8
      have e08 := e5.trans e58
      refine at_W (e08.ok kM') (slB.ext e08) (fun a ha => hokG a (List.mem_reverse.1 ha)) (by rw [List.length_reverse]; omega) ⟨by omega, by omega⟩ ⟨by omega, by omega⟩ fun N11 b e11 hb => ⟨e11.keep _, ?_⟩
      have e011 := e08.trans e11
      have hrev := at_rev hapG hn hb
      have hn1 : -1 ≤ n ∧ n < G.length := by rcases hrev with ⟨h, _⟩ | ⟨j, a, h, hj, _⟩ <;> omega
      refine s_ltF (by omega) (wpIf.ff (step_lenS (slG.ext e011) (s_geF (by omega) (wpIf.ff ?_))))
      rcases hrev with ⟨hn', hb'⟩ | ⟨j, a, hn', hj, hja, hha, hb'⟩
      · refine s_ltT (by omega) (s_ltT (by omega) ⟨.bool false, rfl, wpIf.ff (s_geF (by omega) (wpIf.ff ?_))⟩)
        by_cases hi0 : (i : Int) = 0
        · refine s_eqT hi0 (wpIf.tt (s_geF (by omega) (wpIf.ff ?_)))
          refine law26_PaneApart_c8_wp ?_
          by_cases hneg : n < 0
          · have hnone : ∀ a ∈ G, hasF a i c = false := by
              rcases hn with ⟨_, h⟩ | ⟨j, _, h, _⟩
              · exact h
              · omega
            refine s_ltT hneg (wpIf.tt ?_)
            by_cases hi0 : (i : Int) > 0
            · refine s_gtT hi0 (wpIf.tt (step_add (by omega) (by omega) ?_))
              have hU' : FreeTo R C G i ((c + 1 : Nat) : Int) (U ++ [((i : Int), (c : Int))]) := by
                refine ⟨List.nodup_append.2 ⟨hU.1, by simp, fun x hx y hy e => ?_⟩, fun p => ?_⟩
                · rw [List.mem_singleton] at hy
                  subst e; subst hy
                  have := ((hU.2 _).1 hx).2.2
                  simp only at this
                  omega
                · rw [List.mem_append, hU.2, List.mem_singleton]
                  constructor
                  · rintro (⟨h1, h2, h3⟩ | rfl)
                    · exact ⟨h1, h2, by omega⟩
                    · exact ⟨⟨⟨by show 1 ≤ (i : Int); omega, by show (i : Int) < R; omega⟩, by show 0 ≤ (c : Int); omega, by show (c : Int) < C; omega⟩, hnone, .inr ⟨rfl, by show (c : Int) < ((c + 1 : Nat) : Int); omega⟩⟩
                  · rintro ⟨h1, h2, h3⟩
                    by_cases hp : p.1 = i ∧ p.2 = c
                    · right
                      obtain ⟨p1, p2⟩ := p
                      simp only [Prod.mk.injEq]
                      exact hp
                    · exact .inl ⟨h1, h2, by omega⟩
              have hlen : ((U.length : Nat) : Int) + 1 = (((U ++ [((i : Int), (c : Int))]).length : Nat) : Int) := by simp
              rw [hlen]
              generalize U ++ [((i : Int), (c : Int))] = U' at hU' ⊢
              refine law26_PaneApart_c9_wp ⟨law26_PaneApart_l11_m, a11I N11 R C G v w b1 (.int .u16 y0) (.int .u16 y1) (.int .i8 y2) i c n (.int .i64 U'.length) b3, ⟨G.length, 0, N11, ?_, Ext.refl _, Nat.zero_le _, rfl⟩, ?_⟩
              · have : (if 0 ≤ n ∧ n < ((0 : Nat) : Int) then (1 : Int) else 0) = 0 := if_neg (by omega)
                rw [this]; rfl
              rintro k s ⟨m, N, rfl, eN, hm, rfl⟩
              refine law26_PaneApart_l11_wp (I := a11I N11 R C G v w b1 (.int .u16 y0) (.int .u16 y1) (.int .i8 y2) i c n (.int .i64 U'.length) b3) ?_
              have f0N := e011.trans eN
              refine step_lenS (slG.ext f0N) (step_lss (wpIf.dec (fun g1 => ?_) (fun g1 => ?_)))
              · obtain ⟨a, ha⟩ : ∃ a, G[m]? = some a := ⟨_, List.getElem?_eq_getElem (by omega)⟩
                refine rd (slG.ext f0N) (by omega) (by rw [Int.toNat_natCast]; exact ha) fun _ => LGetN.as (posV ((i : Int), (c : Int))) (by exact Nat.le_refl 2) rfl (local_W (freeze_ok _) (hokG a (List.mem_of_getElem? ha)) ⟨by omega, by omega⟩ ⟨by omega, by omega⟩ fun N7 e7 => ⟨e7.keepF _, _, rfl, _, rfl, rfl, fun b10 N11 hb10 hN11 => ⟨⟨rfl, rfl, by decide⟩, fun N12 hN12 => ?_⟩⟩)
                have f7 := Ext.thaw e7
                have f11 : Ext N N11 := f7.trans (Ext.push' hN11)
                have t7 := f7.size
                have t11 : N11.size = (N7.thaw N.base).size + 1 := by rw [hN11]; rfl
                have f12 : Ext N N12 := hN12 ▸ f11.set (by omega) (by omega) _
                have hin := of_decide_eq_true (hinG a (List.mem_of_getElem? ha))
                by_cases hmn : (m : Int) = n
                · have his : hasF a i c = true := by
                    rcases hn with ⟨h, _⟩ | ⟨j, a', h, hj, h2, _⟩
                    · omega
                    · have : j = m := by omega
                      subst this
                      rw [ha] at hj; cases hj; exact h2
                  have hloc : locF a i c = ((i : Int) - a.t, (c : Int) - a.l) := by unfold locF; rw [if_pos his]
                  have hd := of_decide_eq_true his
                  rw [his, hloc]
                  refine s_eqT hmn ⟨.bool false, rfl, wpIf.ff ⟨.bool false, rfl, wpIf.ff (wpIf.tt ?_)⟩⟩
                  refine LGet.mk (v := .int .i64 ((i : Int) - a.t)) rfl (s_ltF (by omega) (wpIf.ff (LGet.mk (v := .int .i64 ((i : Int) - a.t)) rfl ?_)))
                  refine rd_f ((slG.ext f0N).ext f12) (by omega) (by rw [Int.toNat_natCast]; exact ha) (f := 2) rfl fun _ _ => s_geF (by omega) (wpIf.ff ?_)
                  refine LGet.mk (v := .int .i64 ((c : Int) - a.l)) rfl (s_ltF (by omega) (wpIf.ff (LGet.mk (v := .int .i64 ((c : Int) - a.l)) rfl ?_)))
                  refine rd_f ((slG.ext f0N).ext f12) (by omega) (by rw [Int.toNat_natCast]; exact ha) (f := 3) rfl fun _ _ => s_geF (by omega) (wpIf.ff (wpIf.tt ?_))
                  have h0 : (if 0 ≤ n ∧ n < (m : Int) then (1 : Int) else 0) = 0 := if_neg (by omega)
                  have h1 : (if 0 ≤ n ∧ n < ((m + 1 : Nat) : Int) then (1 : Int) else 0) = 1 := if_pos (by omega)
                  rw [h0]
                  refine step_add (by omega) (by omega) (step_add (by omega) (by omega) ⟨G.length - (m + 1), by omega, m + 1, N12, ?_, eN.trans f12, by omega, rfl⟩)
                  rw [h1]; rfl
                · have his : hasF a i c = false := by
                    cases h : hasF a i c with
                    | false => rfl
                    | true =>
                      rcases hn with ⟨_, h2⟩ | ⟨j, a', h1, hj, h2, _⟩
                      · have := h2 a (List.mem_of_getElem? ha)
                        rw [h] at this; cases this
                      · have := apart_uniq hapG ha hj h h2
                        omega
                  have hloc : locF a i c = (0, 0) := by unfold locF; rw [if_neg (by rw [his]; simp)]
                  have hst : (if 0 ≤ n ∧ n < (m : Int) then (1 : Int) else 0) = (if 0 ≤ n ∧ n < ((m + 1 : Nat) : Int) then (1 : Int) else 0) := by
                    by_cases h : 0 ≤ n ∧ n < (m : Int)
                    · rw [if_pos h, if_pos (by omega)]
                    · rw [if_neg h, if_neg (by omega)]
                  rw [his, hloc, hst]
                  refine s_eqF hmn ⟨.bool false, rfl, wpIf.ff ⟨.bool true, rfl, wpIf.tt ?_⟩⟩
                  refine LGetN.as (posV (0, 0)) (by exact Nat.le_refl 2) rfl ⟨posV (0, 0), rfl, s_posSame (wpIf.ff (wpIf.ff (wpIf.ff ?_)))⟩
                  exact step_add (by omega) (by omega) ⟨G.length - (m + 1), by omega, m + 1, N12, rfl, eN.trans f12, by omega, rfl⟩
              · refine law26_PaneApart_l11_out (law26_PaneApart_c10_wp ?_)
                have h2 : ¬ (if 0 ≤ n ∧ n < (m : Int) then (1 : Int) else 0) > 1 := by split <;> omega
                refine s_gtF h2 (wpIf.ff (law26_PaneApart_c7_wp (step_add (by omega) (by omega) ⟨C.toNat - (c + 1), by omega, c + 1, N, U', rfl, e011.trans eN, hU', by omega, rfl⟩)))
            · refine s_gtF hi0 (wpIf.ff ?_)
              have hU' : FreeTo R C G i ((c + 1 : Nat) : Int) U := ⟨hU.1, fun p => by
                rw [hU.2]
                constructor
                · rintro ⟨h1, h2, h3⟩; exact ⟨h1, h2, by omega⟩
                · rintro ⟨h1, h2, h3⟩; exact ⟨h1, h2, by omega⟩⟩
              refine law26_PaneApart_c9_wp ⟨law26_PaneApart_l11_m, a11I N11 R C G v w b1 (.int .u16 y0) (.int .u16 y1) (.int .i8 y2) i c n (.int .i64 U.length) b3, ⟨G.length, 0, N11, ?_, Ext.refl _, Nat.zero_le _, rfl⟩, ?_⟩
              · have : (if 0 ≤ n ∧ n < ((0 : Nat) : Int) then (1 : Int) else 0) = 0 := if_neg (by omega)
                rw [this]; rfl
              rintro k s ⟨m, N, rfl, eN, hm, rfl⟩
              refine law26_PaneApart_l11_wp (I := a11I N11 R C G v w b1 (.int .u16 y0) (.int .u16 y1) (.int .i8 y2) i c n (.int .i64 U.length) b3) ?_
              have f0N := e011.trans eN
              refine step_lenS (slG.ext f0N) (step_lss (wpIf.dec (fun g1 => ?_) (fun g1 => ?_)))
              · obtain ⟨a, ha⟩ : ∃ a, G[m]? = some a := ⟨_, List.getElem?_eq_getElem (by omega)⟩
                refine rd (slG.ext f0N) (by omega) (by rw [Int.toNat_natCast]; exact ha) fun _ => LGetN.as (posV ((i : Int), (c : Int))) (by exact Nat.le_refl 2) rfl (local_W (freeze_ok _) (hokG a (List.mem_of_getElem? ha)) ⟨by omega, by omega⟩ ⟨by omega, by omega⟩ fun N7 e7 => ⟨e7.keepF _, _, rfl, _, rfl, rfl, fun b10 N11 hb10 hN11 => ⟨⟨rfl, rfl, by decide⟩, fun N12 hN12 => ?_⟩⟩)
                have f7 := Ext.thaw e7
                have f11 : Ext N N11 := f7.trans (Ext.push' hN11)
                have t7 := f7.size
                have t11 : N11.size = (N7.thaw N.base).size + 1 := by rw [hN11]; rfl
                have f12 : Ext N N12 := hN12 ▸ f11.set (by omega) (by omega) _
                have hin := of_decide_eq_true (hinG a (List.mem_of_getElem? ha))
                by_cases hmn : (m : Int) = n
                · have his : hasF a i c = true := by
                    rcases hn with ⟨h, _⟩ | ⟨j, a', h, hj, h2, _⟩
                    · omega
                    · have : j = m := by omega
                      subst this
                      rw [ha] at hj; cases hj; exact h2
                  have hloc : locF a i c = ((i : Int) - a.t, (c : Int) - a.l) := by unfold locF; rw [if_pos his]
                  have hd := of_decide_eq_true his
                  rw [his, hloc]
                  refine s_eqT hmn ⟨.bool false, rfl, wpIf.ff ⟨.bool false, rfl, wpIf.ff (wpIf.tt ?_)⟩⟩
                  refine LGet.mk (v := .int .i64 ((i : Int) - a.t)) rfl (s_ltF (by omega) (wpIf.ff (LGet.mk (v := .int .i64 ((i : Int) - a.t)) rfl ?_)))
                  refine rd_f ((slG.ext f0N).ext f12) (by omega) (by rw [Int.toNat_natCast]; exact ha) (f := 2) rfl fun _ _ => s_geF (by omega) (wpIf.ff ?_)
                  refine LGet.mk (v := .int .i64 ((c : Int) - a.l)) rfl (s_ltF (by omega) (wpIf.ff (LGet.mk (v := .int .i64 ((c : Int) - a.l)) rfl ?_)))
                  refine rd_f ((slG.ext f0N).ext f12) (by omega) (by rw [Int.toNat_natCast]; exact ha) (f := 3) rfl fun _ _ => s_geF (by omega) (wpIf.ff (wpIf.tt ?_))
                  have h0 : (if 0 ≤ n ∧ n < (m : Int) then (1 : Int) else 0) = 0 := if_neg (by omega)
                  have h1 : (if 0 ≤ n ∧ n < ((m + 1 : Nat) : Int) then (1 : Int) else 0) = 1 := if_pos (by omega)
                  rw [h0]
                  refine step_add (by omega) (by omega) (step_add (by omega) (by omega) ⟨G.length - (m + 1), by omega, m + 1, N12, ?_, eN.trans f12, by omega, rfl⟩)
                  rw [h1]; rfl
                · have his : hasF a i c = false := by
                    cases h : hasF a i c with
                    | false => rfl
                    | true =>
                      rcases hn with ⟨_, h2⟩ | ⟨j, a', h1, hj, h2, _⟩
                      · have := h2 a (List.mem_of_getElem? ha)
                        rw [h] at this; cases this
                      · have := apart_uniq hapG ha hj h h2
                        omega
                  have hloc : locF a i c = (0, 0) := by unfold locF; rw [if_neg (by rw [his]; simp)]
                  have hst : (if 0 ≤ n ∧ n < (m : Int) then (1 : Int) else 0) = (if 0 ≤ n ∧ n < ((m + 1 : Nat) : Int) then (1 : Int) else 0) := by
                    by_cases h : 0 ≤ n ∧ n < (m : Int)
                    · rw [if_pos h, if_pos (by omega)]
                    · rw [if_neg h, if_neg (by omega)]
                  rw [his, hloc, hst]
                  refine s_eqF hmn ⟨.bool false, rfl, wpIf.ff ⟨.bool true, rfl, wpIf.tt ?_⟩⟩
                  refine LGetN.as (posV (0, 0)) (by exact Nat.le_refl 2) rfl ⟨posV (0, 0), rfl, s_posSame (wpIf.ff (wpIf.ff (wpIf.ff ?_)))⟩
                  exact step_add (by omega) (by omega) ⟨G.length - (m + 1), by omega, m + 1, N12, rfl, eN.trans f12, by omega, rfl⟩
              · refine law26_PaneApart_l11_out (law26_PaneApart_c10_wp ?_)
                have h2 : ¬ (if 0 ≤ n ∧ n < (m : Int) then (1 : Int) else 0) > 1 := by split <;> omega
                refine s_gtF h2 (wpIf.ff (law26_PaneApart_c7_wp (step_add (by omega) (by omega) ⟨C.toNat - (c + 1), by omega, c + 1, N, U, rfl, e011.trans eN, hU', by omega, rfl⟩)))
          · refine s_ltF hneg (wpIf.ff ?_)
            have hU' : FreeTo R C G i ((c + 1 : Nat) : Int) U := ⟨hU.1, fun p => by
              rw [hU.2]
              constructor
              · rintro ⟨h1, h2, h3⟩; exact ⟨h1, h2, by omega⟩
              · rintro ⟨h1, h2, h3⟩
                refine ⟨h1, h2, ?_⟩
                by_cases hp : p.1 = i ∧ p.2 = c
                · exfalso
                  rcases hn with ⟨h, _⟩ | ⟨j, a, _, hj, h, _⟩
                  · omega
                  · have := h2 a (List.mem_of_getElem? hj)
                    rw [hp.1, hp.2, h] at this; cases this
                · omega⟩
            refine law26_PaneApart_c9_wp ⟨law26_PaneApart_l11_m, a11I N11 R C G v w b1 (.int .u16 y0) (.int .u16 y1) (.int .i8 y2) i c n (.int .i64 U.length) b3, ⟨G.length, 0, N11, ?_, Ext.refl _, Nat.zero_le _, rfl⟩, ?_⟩
            · have : (if 0 ≤ n ∧ n < ((0 : Nat) : Int) then (1 : Int) else 0) = 0 := if_neg (by omega)
              rw [this]; rfl
            rintro k s ⟨m, N, rfl, eN, hm, rfl⟩
            refine law26_PaneApart_l11_wp (I := a11I N11 R C G v w b1 (.int .u16 y0) (.int .u16 y1) (.int .i8 y2) i c n (.int .i64 U.length) b3) ?_
            have f0N := e011.trans eN
            refine step_lenS (slG.ext f0N) (step_lss (wpIf.dec (fun g1 => ?_) (fun g1 => ?_)))
            · obtain ⟨a, ha⟩ : ∃ a, G[m]? = some a := ⟨_, List.getElem?_eq_getElem (by omega)⟩
              refine rd (slG.ext f0N) (by omega) (by rw [Int.toNat_natCast]; exact ha) fun _ => LGetN.as (posV ((i : Int), (c : Int))) (by exact Nat.le_refl 2) rfl (local_W (freeze_ok _) (hokG a (List.mem_of_getElem? ha)) ⟨by omega, by omega⟩ ⟨by omega, by omega⟩ fun N7 e7 => ⟨e7.keepF _, _, rfl, _, rfl, rfl, fun b10 N11 hb10 hN11 => ⟨⟨rfl, rfl, by decide⟩, fun N12 hN12 => ?_⟩⟩)
              have f7 := Ext.thaw e7
              have f11 : Ext N N11 := f7.trans (Ext.push' hN11)
              have t7 := f7.size
              have t11 : N11.size = (N7.thaw N.base).size + 1 := by rw [hN11]; rfl
              have f12 : Ext N N12 := hN12 ▸ f11.set (by omega) (by omega) _
              have hin := of_decide_eq_true (hinG a (List.mem_of_getElem? ha))
              by_cases hmn : (m : Int) = n
              · have his : hasF a i c = true := by
                  rcases hn with ⟨h, _⟩ | ⟨j, a', h, hj, h2, _⟩
                  · omega
                  · have : j = m := by omega
                    subst this
                    rw [ha] at hj; cases hj; exact h2
                have hloc : locF a i c = ((i : Int) - a.t, (c : Int) - a.l) := by unfold locF; rw [if_pos his]
                have hd := of_decide_eq_true his
                rw [his, hloc]
                refine s_eqT hmn ⟨.bool false, rfl, wpIf.ff ⟨.bool false, rfl, wpIf.ff (wpIf.tt ?_)⟩⟩
                refine LGet.mk (v := .int .i64 ((i : Int) - a.t)) rfl (s_ltF (by omega) (wpIf.ff (LGet.mk (v := .int .i64 ((i : Int) - a.t)) rfl ?_)))
                refine rd_f ((slG.ext f0N).ext f12) (by omega) (by rw [Int.toNat_natCast]; exact ha) (f := 2) rfl fun _ _ => s_geF (by omega) (wpIf.ff ?_)
                refine LGet.mk (v := .int .i64 ((c : Int) - a.l)) rfl (s_ltF (by omega) (wpIf.ff (LGet.mk (v := .int .i64 ((c : Int) - a.l)) rfl ?_)))
                refine rd_f ((slG.ext f0N).ext f12) (by omega) (by rw [Int.toNat_natCast]; exact ha) (f := 3) rfl fun _ _ => s_geF (by omega) (wpIf.ff (wpIf.tt ?_))
                have h0 : (if 0 ≤ n ∧ n < (m : Int) then (1 : Int) else 0) = 0 := if_neg (by omega)
                have h1 : (if 0 ≤ n ∧ n < ((m + 1 : Nat) : Int) then (1 : Int) else 0) = 1 := if_pos (by omega)
                rw [h0]
                refine step_add (by omega) (by omega) (step_add (by omega) (by omega) ⟨G.length - (m + 1), by omega, m + 1, N12, ?_, eN.trans f12, by omega, rfl⟩)
                rw [h1]; rfl
              · have his : hasF a i c = false := by
                  cases h : hasF a i c with
                  | false => rfl
                  | true =>
                    rcases hn with ⟨_, h2⟩ | ⟨j, a', h1, hj, h2, _⟩
                    · have := h2 a (List.mem_of_getElem? ha)
                      rw [h] at this; cases this
                    · have := apart_uniq hapG ha hj h h2
                      omega
                have hloc : locF a i c = (0, 0) := by unfold locF; rw [if_neg (by rw [his]; simp)]
                have hst : (if 0 ≤ n ∧ n < (m : Int) then (1 : Int) else 0) = (if 0 ≤ n ∧ n < ((m + 1 : Nat) : Int) then (1 : Int) else 0) := by
                  by_cases h : 0 ≤ n ∧ n < (m : Int)
                  · rw [if_pos h, if_pos (by omega)]
                  · rw [if_neg h, if_neg (by omega)]
                rw [his, hloc, hst]
                refine s_eqF hmn ⟨.bool false, rfl, wpIf.ff ⟨.bool true, rfl, wpIf.tt ?_⟩⟩
                refine LGetN.as (posV (0, 0)) (by exact Nat.le_refl 2) rfl ⟨posV (0, 0), rfl, s_posSame (wpIf.ff (wpIf.ff (wpIf.ff ?_)))⟩
                exact step_add (by omega) (by omega) ⟨G.length - (m + 1), by omega, m + 1, N12, rfl, eN.trans f12, by omega, rfl⟩
            · refine law26_PaneApart_l11_out (law26_PaneApart_c10_wp ?_)
              have h2 : ¬ (if 0 ≤ n ∧ n < (m : Int) then (1 : Int) else 0) > 1 := by split <;> omega
              refine s_gtF h2 (wpIf.ff (law26_PaneApart_c7_wp (step_add (by omega) (by omega) ⟨C.toNat - (c + 1), by omega, c + 1, N, U, rfl, e011.trans eN, hU', by omega, rfl⟩)))
        · refine s_eqF hi0 (wpIf.ff ?_)
          refine law26_PaneApart_c8_wp ?_
          by_cases hneg : n < 0
          · have hnone : ∀ a ∈ G, hasF a i c = false := by
              rcases hn with ⟨_, h⟩ | ⟨j, _, h, _⟩
              · exact h
              · omega
            refine s_ltT hneg (wpIf.tt ?_)
            by_cases hi0 : (i : Int) > 0
            · refine s_gtT hi0 (wpIf.tt (step_add (by omega) (by omega) ?_))
              have hU' : FreeTo R C G i ((c + 1 : Nat) : Int) (U ++ [((i : Int), (c : Int))]) := by
                refine ⟨List.nodup_append.2 ⟨hU.1, by simp, fun x hx y hy e => ?_⟩, fun p => ?_⟩
                · rw [List.mem_singleton] at hy
                  subst e; subst hy
                  have := ((hU.2 _).1 hx).2.2
                  simp only at this
                  omega
                · rw [List.mem_append, hU.2, List.mem_singleton]
                  constructor
                  · rintro (⟨h1, h2, h3⟩ | rfl)
                    · exact ⟨h1, h2, by omega⟩
                    · exact ⟨⟨⟨by show 1 ≤ (i : Int); omega, by show (i : Int) < R; omega⟩, by show 0 ≤ (c : Int); omega, by show (c : Int) < C; omega⟩, hnone, .inr ⟨rfl, by show (c : Int) < ((c + 1 : Nat) : Int); omega⟩⟩
                  · rintro ⟨h1, h2, h3⟩
                    by_cases hp : p.1 = i ∧ p.2 = c
                    · right
                      obtain ⟨p1, p2⟩ := p
                      simp only [Prod.mk.injEq]
                      exact hp
                    · exact .inl ⟨h1, h2, by omega⟩
              have hlen : ((U.length : Nat) : Int) + 1 = (((U ++ [((i : Int), (c : Int))]).length : Nat) : Int) := by simp
              rw [hlen]
              generalize U ++ [((i : Int), (c : Int))] = U' at hU' ⊢
              refine law26_PaneApart_c9_wp ⟨law26_PaneApart_l11_m, a11I N11 R C G v w b1 (.int .u16 y0) (.int .u16 y1) (.int .i8 y2) i c n (.int .i64 U'.length) b3, ⟨G.length, 0, N11, ?_, Ext.refl _, Nat.zero_le _, rfl⟩, ?_⟩
              · have : (if 0 ≤ n ∧ n < ((0 : Nat) : Int) then (1 : Int) else 0) = 0 := if_neg (by omega)
                rw [this]; rfl
              rintro k s ⟨m, N, rfl, eN, hm, rfl⟩
              refine law26_PaneApart_l11_wp (I := a11I N11 R C G v w b1 (.int .u16 y0) (.int .u16 y1) (.int .i8 y2) i c n (.int .i64 U'.length) b3) ?_
              have f0N := e011.trans eN
              refine step_lenS (slG.ext f0N) (step_lss (wpIf.dec (fun g1 => ?_) (fun g1 => ?_)))
              · obtain ⟨a, ha⟩ : ∃ a, G[m]? = some a := ⟨_, List.getElem?_eq_getElem (by omega)⟩
                refine rd (slG.ext f0N) (by omega) (by rw [Int.toNat_natCast]; exact ha) fun _ => LGetN.as (posV ((i : Int), (c : Int))) (by exact Nat.le_refl 2) rfl (local_W (freeze_ok _) (hokG a (List.mem_of_getElem? ha)) ⟨by omega, by omega⟩ ⟨by omega, by omega⟩ fun N7 e7 => ⟨e7.keepF _, _, rfl, _, rfl, rfl, fun b10 N11 hb10 hN11 => ⟨⟨rfl, rfl, by decide⟩, fun N12 hN12 => ?_⟩⟩)
                have f7 := Ext.thaw e7
                have f11 : Ext N N11 := f7.trans (Ext.push' hN11)
                have t7 := f7.size
                have t11 : N11.size = (N7.thaw N.base).size + 1 := by rw [hN11]; rfl
                have f12 : Ext N N12 := hN12 ▸ f11.set (by omega) (by omega) _
                have hin := of_decide_eq_true (hinG a (List.mem_of_getElem? ha))
                by_cases hmn : (m : Int) = n
                · have his : hasF a i c = true := by
                    rcases hn with ⟨h, _⟩ | ⟨j, a', h, hj, h2, _⟩
                    · omega
                    · have : j = m := by omega
                      subst this
                      rw [ha] at hj; cases hj; exact h2
                  have hloc : locF a i c = ((i : Int) - a.t, (c : Int) - a.l) := by unfold locF; rw [if_pos his]
                  have hd := of_decide_eq_true his
                  rw [his, hloc]
                  refine s_eqT hmn ⟨.bool false, rfl, wpIf.ff ⟨.bool false, rfl, wpIf.ff (wpIf.tt ?_)⟩⟩
                  refine LGet.mk (v := .int .i64 ((i : Int) - a.t)) rfl (s_ltF (by omega) (wpIf.ff (LGet.mk (v := .int .i64 ((i : Int) - a.t)) rfl ?_)))
                  refine rd_f ((slG.ext f0N).ext f12) (by omega) (by rw [Int.toNat_natCast]; exact ha) (f := 2) rfl fun _ _ => s_geF (by omega) (wpIf.ff ?_)
                  refine LGet.mk (v := .int .i64 ((c : Int) - a.l)) rfl (s_ltF (by omega) (wpIf.ff (LGet.mk (v := .int .i64 ((c : Int) - a.l)) rfl ?_)))
                  refine rd_f ((slG.ext f0N).ext f12) (by omega) (by rw [Int.toNat_natCast]; exact ha) (f := 3) rfl fun _ _ => s_geF (by omega) (wpIf.ff (wpIf.tt ?_))
                  have h0 : (if 0 ≤ n ∧ n < (m : Int) then (1 : Int) else 0) = 0 := if_neg (by omega)
                  have h1 : (if 0 ≤ n ∧ n < ((m + 1 : Nat) : Int) then (1 : Int) else 0) = 1 := if_pos (by omega)
                  rw [h0]
                  refine step_add (by omega) (by omega) (step_add (by omega) (by omega) ⟨G.length - (m + 1), by omega, m + 1, N12, ?_, eN.trans f12, by omega, rfl⟩)
                  rw [h1]; rfl
                · have his : hasF a i c = false := by
                    cases h : hasF a i c with
                    | false => rfl
                    | true =>
                      rcases hn with ⟨_, h2⟩ | ⟨j, a', h1, hj, h2, _⟩
                      · have := h2 a (List.mem_of_getElem? ha)
                        rw [h] at this; cases this
                      · have := apart_uniq hapG ha hj h h2
                        omega
                  have hloc : locF a i c = (0, 0) := by unfold locF; rw [if_neg (by rw [his]; simp)]
                  have hst : (if 0 ≤ n ∧ n < (m : Int) then (1 : Int) else 0) = (if 0 ≤ n ∧ n < ((m + 1 : Nat) : Int) then (1 : Int) else 0) := by
                    by_cases h : 0 ≤ n ∧ n < (m : Int)
                    · rw [if_pos h, if_pos (by omega)]
                    · rw [if_neg h, if_neg (by omega)]
                  rw [his, hloc, hst]
                  refine s_eqF hmn ⟨.bool false, rfl, wpIf.ff ⟨.bool true, rfl, wpIf.tt ?_⟩⟩
                  refine LGetN.as (posV (0, 0)) (by exact Nat.le_refl 2) rfl ⟨posV (0, 0), rfl, s_posSame (wpIf.ff (wpIf.ff (wpIf.ff ?_)))⟩
                  exact step_add (by omega) (by omega) ⟨G.length - (m + 1), by omega, m + 1, N12, rfl, eN.trans f12, by omega, rfl⟩
              · refine law26_PaneApart_l11_out (law26_PaneApart_c10_wp ?_)
                have h2 : ¬ (if 0 ≤ n ∧ n < (m : Int) then (1 : Int) else 0) > 1 := by split <;> omega
                refine s_gtF h2 (wpIf.ff (law26_PaneApart_c7_wp (step_add (by omega) (by omega) ⟨C.toNat - (c + 1), by omega, c + 1, N, U', rfl, e011.trans eN, hU', by omega, rfl⟩)))
            · refine s_gtF hi0 (wpIf.ff ?_)
              have hU' : FreeTo R C G i ((c + 1 : Nat) : Int) U := ⟨hU.1, fun p => by
                rw [hU.2]
                constructor
                · rintro ⟨h1, h2, h3⟩; exact ⟨h1, h2, by omega⟩
                · rintro ⟨h1, h2, h3⟩; exact ⟨h1, h2, by omega⟩⟩
              refine law26_PaneApart_c9_wp ⟨law26_PaneApart_l11_m, a11I N11 R C G v w b1 (.int .u16 y0) (.int .u16 y1) (.int .i8 y2) i c n (.int .i64 U.length) b3, ⟨G.length, 0, N11, ?_, Ext.refl _, Nat.zero_le _, rfl⟩, ?_⟩
              · have : (if 0 ≤ n ∧ n < ((0 : Nat) : Int) then (1 : Int) else 0) = 0 := if_neg (by omega)
                rw [this]; rfl
              rintro k s ⟨m, N, rfl, eN, hm, rfl⟩
              refine law26_PaneApart_l11_wp (I := a11I N11 R C G v w b1 (.int .u16 y0) (.int .u16 y1) (.int .i8 y2) i c n (.int .i64 U.length) b3) ?_
              have f0N := e011.trans eN
              refine step_lenS (slG.ext f0N) (step_lss (wpIf.dec (fun g1 => ?_) (fun g1 => ?_)))
              · obtain ⟨a, ha⟩ : ∃ a, G[m]? = some a := ⟨_, List.getElem?_eq_getElem (by omega)⟩
                refine rd (slG.ext f0N) (by omega) (by rw [Int.toNat_natCast]; exact ha) fun _ => LGetN.as (posV ((i : Int), (c : Int))) (by exact Nat.le_refl 2) rfl (local_W (freeze_ok _) (hokG a (List.mem_of_getElem? ha)) ⟨by omega, by omega⟩ ⟨by omega, by omega⟩ fun N7 e7 => ⟨e7.keepF _, _, rfl, _, rfl, rfl, fun b10 N11 hb10 hN11 => ⟨⟨rfl, rfl, by decide⟩, fun N12 hN12 => ?_⟩⟩)
                have f7 := Ext.thaw e7
                have f11 : Ext N N11 := f7.trans (Ext.push' hN11)
                have t7 := f7.size
                have t11 : N11.size = (N7.thaw N.base).size + 1 := by rw [hN11]; rfl
                have f12 : Ext N N12 := hN12 ▸ f11.set (by omega) (by omega) _
                have hin := of_decide_eq_true (hinG a (List.mem_of_getElem? ha))
                by_cases hmn : (m : Int) = n
                · have his : hasF a i c = true := by
                    rcases hn with ⟨h, _⟩ | ⟨j, a', h, hj, h2, _⟩
                    · omega
                    · have : j = m := by omega
                      subst this
                      rw [ha] at hj; cases hj; exact h2
                  have hloc : locF a i c = ((i : Int) - a.t, (c : Int) - a.l) := by unfold locF; rw [if_pos his]
                  have hd := of_decide_eq_true his
                  rw [his, hloc]
                  refine s_eqT hmn ⟨.bool false, rfl, wpIf.ff ⟨.bool false, rfl, wpIf.ff (wpIf.tt ?_)⟩⟩
                  refine LGet.mk (v := .int .i64 ((i : Int) - a.t)) rfl (s_ltF (by omega) (wpIf.ff (LGet.mk (v := .int .i64 ((i : Int) - a.t)) rfl ?_)))
                  refine rd_f ((slG.ext f0N).ext f12) (by omega) (by rw [Int.toNat_natCast]; exact ha) (f := 2) rfl fun _ _ => s_geF (by omega) (wpIf.ff ?_)
                  refine LGet.mk (v := .int .i64 ((c : Int) - a.l)) rfl (s_ltF (by omega) (wpIf.ff (LGet.mk (v := .int .i64 ((c : Int) - a.l)) rfl ?_)))
                  refine rd_f ((slG.ext f0N).ext f12) (by omega) (by rw [Int.toNat_natCast]; exact ha) (f := 3) rfl fun _ _ => s_geF (by omega) (wpIf.ff (wpIf.tt ?_))
                  have h0 : (if 0 ≤ n ∧ n < (m : Int) then (1 : Int) else 0) = 0 := if_neg (by omega)
                  have h1 : (if 0 ≤ n ∧ n < ((m + 1 : Nat) : Int) then (1 : Int) else 0) = 1 := if_pos (by omega)
                  rw [h0]
                  refine step_add (by omega) (by omega) (step_add (by omega) (by omega) ⟨G.length - (m + 1), by omega, m + 1, N12, ?_, eN.trans f12, by omega, rfl⟩)
                  rw [h1]; rfl
                · have his : hasF a i c = false := by
                    cases h : hasF a i c with
                    | false => rfl
                    | true =>
                      rcases hn with ⟨_, h2⟩ | ⟨j, a', h1, hj, h2, _⟩
                      · have := h2 a (List.mem_of_getElem? ha)
                        rw [h] at this; cases this
                      · have := apart_uniq hapG ha hj h h2
                        omega
                  have hloc : locF a i c = (0, 0) := by unfold locF; rw [if_neg (by rw [his]; simp)]
                  have hst : (if 0 ≤ n ∧ n < (m : Int) then (1 : Int) else 0) = (if 0 ≤ n ∧ n < ((m + 1 : Nat) : Int) then (1 : Int) else 0) := by
                    by_cases h : 0 ≤ n ∧ n < (m : Int)
                    · rw [if_pos h, if_pos (by omega)]
                    · rw [if_neg h, if_neg (by omega)]
                  rw [his, hloc, hst]
                  refine s_eqF hmn ⟨.bool false, rfl, wpIf.ff ⟨.bool true, rfl, wpIf.tt ?_⟩⟩
                  refine LGetN.as (posV (0, 0)) (by exact Nat.le_refl 2) rfl ⟨posV (0, 0), rfl, s_posSame (wpIf.ff (wpIf.ff (wpIf.ff ?_)))⟩
                  exact step_add (by omega) (by omega) ⟨G.length - (m + 1), by omega, m + 1, N12, rfl, eN.trans f12, by omega, rfl⟩
              · refine law26_PaneApart_l11_out (law26_PaneApart_c10_wp ?_)
                have h2 : ¬ (if 0 ≤ n ∧ n < (m : Int) then (1 : Int) else 0) > 1 := by split <;> omega
                refine s_gtF h2 (wpIf.ff (law26_PaneApart_c7_wp (step_add (by omega) (by omega) ⟨C.toNat - (c + 1), by omega, c + 1, N, U, rfl, e011.trans eN, hU', by omega, rfl⟩)))
          · refine s_ltF hneg (wpIf.ff ?_)
            have hU' : FreeTo R C G i ((c + 1 : Nat) : Int) U := ⟨hU.1, fun p => by
              rw [hU.2]
              constructor
              · rintro ⟨h1, h2, h3⟩; exact ⟨h1, h2, by omega⟩
              · rintro ⟨h1, h2, h3⟩
                refine ⟨h1, h2, ?_⟩
                by_cases hp : p.1 = i ∧ p.2 = c
                · exfalso
                  rcases hn with ⟨h, _⟩ | ⟨j, a, _, hj, h, _⟩
                  · omega
                  · have := h2 a (List.mem_of_getElem? hj)
                    rw [hp.1, hp.2, h] at this; cases this
                · omega⟩
            refine law26_PaneApart_c9_wp ⟨law26_PaneApart_l11_m, a11I N11 R C G v w b1 (.int .u16 y0) (.int .u16 y1) (.int .i8 y2) i c n (.int .i64 U.length) b3, ⟨G.length, 0, N11, ?_, Ext.refl _, Nat.zero_le _, rfl⟩, ?_⟩
            · have : (if 0 ≤ n ∧ n < ((0 : Nat) : Int) then (1 : Int) else 0) = 0 := if_neg (by omega)
              rw [this]; rfl
            rintro k s ⟨m, N, rfl, eN, hm, rfl⟩
            refine law26_PaneApart_l11_wp (I := a11I N11 R C G v w b1 (.int .u16 y0) (.int .u16 y1) (.int .i8 y2) i c n (.int .i64 U.length) b3) ?_
            have f0N := e011.trans eN
            refine step_lenS (slG.ext f0N) (step_lss (wpIf.dec (fun g1 => ?_) (fun g1 => ?_)))
            · obtain ⟨a, ha⟩ : ∃ a, G[m]? = some a := ⟨_, List.getElem?_eq_getElem (by omega)⟩
              refine rd (slG.ext f0N) (by omega) (by rw [Int.toNat_natCast]; exact ha) fun _ => LGetN.as (posV ((i : Int), (c : Int))) (by exact Nat.le_refl 2) rfl (local_W (freeze_ok _) (hokG a (List.mem_of_getElem? ha)) ⟨by omega, by omega⟩ ⟨by omega, by omega⟩ fun N7 e7 => ⟨e7.keepF _, _, rfl, _, rfl, rfl, fun b10 N11 hb10 hN11 => ⟨⟨rfl, rfl, by decide⟩, fun N12 hN12 => ?_⟩⟩)
              have f7 := Ext.thaw e7
              have f11 : Ext N N11 := f7.trans (Ext.push' hN11)
              have t7 := f7.size
              have t11 : N11.size = (N7.thaw N.base).size + 1 := by rw [hN11]; rfl
              have f12 : Ext N N12 := hN12 ▸ f11.set (by omega) (by omega) _
              have hin := of_decide_eq_true (hinG a (List.mem_of_getElem? ha))
              by_cases hmn : (m : Int) = n
              · have his : hasF a i c = true := by
                  rcases hn with ⟨h, _⟩ | ⟨j, a', h, hj, h2, _⟩
                  · omega
                  · have : j = m := by omega
                    subst this
                    rw [ha] at hj; cases hj; exact h2
                have hloc : locF a i c = ((i : Int) - a.t, (c : Int) - a.l) := by unfold locF; rw [if_pos his]
                have hd := of_decide_eq_true his
                rw [his, hloc]
                refine s_eqT hmn ⟨.bool false, rfl, wpIf.ff ⟨.bool false, rfl, wpIf.ff (wpIf.tt ?_)⟩⟩
                refine LGet.mk (v := .int .i64 ((i : Int) - a.t)) rfl (s_ltF (by omega) (wpIf.ff (LGet.mk (v := .int .i64 ((i : Int) - a.t)) rfl ?_)))
                refine rd_f ((slG.ext f0N).ext f12) (by omega) (by rw [Int.toNat_natCast]; exact ha) (f := 2) rfl fun _ _ => s_geF (by omega) (wpIf.ff ?_)
                refine LGet.mk (v := .int .i64 ((c : Int) - a.l)) rfl (s_ltF (by omega) (wpIf.ff (LGet.mk (v := .int .i64 ((c : Int) - a.l)) rfl ?_)))
                refine rd_f ((slG.ext f0N).ext f12) (by omega) (by rw [Int.toNat_natCast]; exact ha) (f := 3) rfl fun _ _ => s_geF (by omega) (wpIf.ff (wpIf.tt ?_))
                have h0 : (if 0 ≤ n ∧ n < (m : Int) then (1 : Int) else 0) = 0 := if_neg (by omega)
                have h1 : (if 0 ≤ n ∧ n < ((m + 1 : Nat) : Int) then (1 : Int) else 0) = 1 := if_pos (by omega)
                rw [h0]
                refine step_add (by omega) (by omega) (step_add (by omega) (by omega) ⟨G.length - (m + 1), by omega, m + 1, N12, ?_, eN.trans f12, by omega, rfl⟩)
                rw [h1]; rfl
              · have his : hasF a i c = false := by
                  cases h : hasF a i c with
                  | false => rfl
                  | true =>
                    rcases hn with ⟨_, h2⟩ | ⟨j, a', h1, hj, h2, _⟩
                    · have := h2 a (List.mem_of_getElem? ha)
                      rw [h] at this; cases this
                    · have := apart_uniq hapG ha hj h h2
                      omega
                have hloc : locF a i c = (0, 0) := by unfold locF; rw [if_neg (by rw [his]; simp)]
                have hst : (if 0 ≤ n ∧ n < (m : Int) then (1 : Int) else 0) = (if 0 ≤ n ∧ n < ((m + 1 : Nat) : Int) then (1 : Int) else 0) := by
                  by_cases h : 0 ≤ n ∧ n < (m : Int)
                  · rw [if_pos h, if_pos (by omega)]
                  · rw [if_neg h, if_neg (by omega)]
                rw [his, hloc, hst]
                refine s_eqF hmn ⟨.bool false, rfl, wpIf.ff ⟨.bool true, rfl, wpIf.tt ?_⟩⟩
                refine LGetN.as (posV (0, 0)) (by exact Nat.le_refl 2) rfl ⟨posV (0, 0), rfl, s_posSame (wpIf.ff (wpIf.ff (wpIf.ff ?_)))⟩
                exact step_add (by omega) (by omega) ⟨G.length - (m + 1), by omega, m + 1, N12, rfl, eN.trans f12, by omega, rfl⟩
            · refine law26_PaneApart_l11_out (law26_PaneApart_c10_wp ?_)
              have h2 : ¬ (if 0 ≤ n ∧ n < (m : Int) then (1 : Int) else 0) > 1 := by split <;> omega
              refine s_gtF h2 (wpIf.ff (law26_PaneApart_c7_wp (step_add (by omega) (by omega) ⟨C.toNat - (c + 1), by omega, c + 1, N, U, rfl, e011.trans eN, hU', by omega, rfl⟩)))
      · refine s_ltF (by omega) (s_ltF (by omega) ⟨.bool false, rfl, wpIf.ff (s_geT (by omega) (wpIf.tt (step_lenS (slG.ext e011) (step_sub (by omega) (by omega) (step_sub (by omega) (by omega) (s_neF (by omega) (wpIf.ff ?_)))))))⟩)
        have hi0 : ¬ (i : Int) = 0 := by
          have := of_decide_eq_true (hinG a (List.mem_of_getElem? hja))
          have := of_decide_eq_true hha
          omega
        refine s_eqF hi0 (wpIf.ff ?_)
        refine law26_PaneApart_c8_wp ?_
        by_cases hneg : n < 0
        · have hnone : ∀ a ∈ G, hasF a i c = false := by
            rcases hn with ⟨_, h⟩ | ⟨j, _, h, _⟩
            · exact h
            · omega
          refine s_ltT hneg (wpIf.tt ?_)
          by_cases hi0 : (i : Int) > 0
          · refine s_gtT hi0 (wpIf.tt (step_add (by omega) (by omega) ?_))
            have hU' : FreeTo R C G i ((c + 1 : Nat) : Int) (U ++ [((i : Int), (c : Int))]) := by
              refine ⟨List.nodup_append.2 ⟨hU.1, by simp, fun x hx y hy e => ?_⟩, fun p => ?_⟩
              · rw [List.mem_singleton] at hy
                subst e; subst hy
                have := ((hU.2 _).1 hx).2.2
                simp only at this
                omega
              · rw [List.mem_append, hU.2, List.mem_singleton]
                constructor
                · rintro (⟨h1, h2, h3⟩ | rfl)
                  · exact ⟨h1, h2, by omega⟩
                  · exact ⟨⟨⟨by show 1 ≤ (i : Int); omega, by show (i : Int) < R; omega⟩, by show 0 ≤ (c : Int); omega, by show (c : Int) < C; omega⟩, hnone, .inr ⟨rfl, by show (c : Int) < ((c + 1 : Nat) : Int); omega⟩⟩
                · rintro ⟨h1, h2, h3⟩
                  by_cases hp : p.1 = i ∧ p.2 = c
                  · right
                    obtain ⟨p1, p2⟩ := p
                    simp only [Prod.mk.injEq]
                    exact hp
                  · exact .inl ⟨h1, h2, by omega⟩
            have hlen : ((U.length : Nat) : Int) + 1 = (((U ++ [((i : Int), (c : Int))]).length : Nat) : Int) := by simp
            rw [hlen]
            generalize U ++ [((i : Int), (c : Int))] = U' at hU' ⊢
            refine law26_PaneApart_c9_wp ⟨law26_PaneApart_l11_m, a11I N11 R C G v w b1 (.int .u16 y0) (.int .u16 y1) (.int .i8 y2) i c n (.int .i64 U'.length) b3, ⟨G.length, 0, N11, ?_, Ext.refl _, Nat.zero_le _, rfl⟩, ?_⟩
            · have : (if 0 ≤ n ∧ n < ((0 : Nat) : Int) then (1 : Int) else 0) = 0 := if_neg (by omega)
              rw [this]; rfl
            rintro k s ⟨m, N, rfl, eN, hm, rfl⟩
            refine law26_PaneApart_l11_wp (I := a11I N11 R C G v w b1 (.int .u16 y0) (.int .u16 y1) (.int .i8 y2) i c n (.int .i64 U'.length) b3) ?_
            have f0N := e011.trans eN
            refine step_lenS (slG.ext f0N) (step_lss (wpIf.dec (fun g1 => ?_) (fun g1 => ?_)))
            · obtain ⟨a, ha⟩ : ∃ a, G[m]? = some a := ⟨_, List.getElem?_eq_getElem (by omega)⟩
              refine rd (slG.ext f0N) (by omega) (by rw [Int.toNat_natCast]; exact ha) fun _ => LGetN.as (posV ((i : Int), (c : Int))) (by exact Nat.le_refl 2) rfl (local_W (freeze_ok _) (hokG a (List.mem_of_getElem? ha)) ⟨by omega, by omega⟩ ⟨by omega, by omega⟩ fun N7 e7 => ⟨e7.keepF _, _, rfl, _, rfl, rfl, fun b10 N11 hb10 hN11 => ⟨⟨rfl, rfl, by decide⟩, fun N12 hN12 => ?_⟩⟩)
              have f7 := Ext.thaw e7
              have f11 : Ext N N11 := f7.trans (Ext.push' hN11)
              have t7 := f7.size
              have t11 : N11.size = (N7.thaw N.base).size + 1 := by rw [hN11]; rfl
              have f12 : Ext N N12 := hN12 ▸ f11.set (by omega) (by omega) _
              have hin := of_decide_eq_true (hinG a (List.mem_of_getElem? ha))
              by_cases hmn : (m : Int) = n
              · have his : hasF a i c = true := by
                  rcases hn with ⟨h, _⟩ | ⟨j, a', h, hj, h2, _⟩
                  · omega
                  · have : j = m := by omega
                    subst this
                    rw [ha] at hj; cases hj; exact h2
                have hloc : locF a i c = ((i : Int) - a.t, (c : Int) - a.l) := by unfold locF; rw [if_pos his]
                have hd := of_decide_eq_true his
                rw [his, hloc]
                refine s_eqT hmn ⟨.bool false, rfl, wpIf.ff ⟨.bool false, rfl, wpIf.ff (wpIf.tt ?_)⟩⟩
                refine LGet.mk (v := .int .i64 ((i : Int) - a.t)) rfl (s_ltF (by omega) (wpIf.ff (LGet.mk (v := .int .i64 ((i : Int) - a.t)) rfl ?_)))
                refine rd_f ((slG.ext f0N).ext f12) (by omega) (by rw [Int.toNat_natCast]; exact ha) (f := 2) rfl fun _ _ => s_geF (by omega) (wpIf.ff ?_)
                refine LGet.mk (v := .int .i64 ((c : Int) - a.l)) rfl (s_ltF (by omega) (wpIf.ff (LGet.mk (v := .int .i64 ((c : Int) - a.l)) rfl ?_)))
                refine rd_f ((slG.ext f0N).ext f12) (by omega) (by rw [Int.toNat_natCast]; exact ha) (f := 3) rfl fun _ _ => s_geF (by omega) (wpIf.ff (wpIf.tt ?_))
                have h0 : (if 0 ≤ n ∧ n < (m : Int) then (1 : Int) else 0) = 0 := if_neg (by omega)
                have h1 : (if 0 ≤ n ∧ n < ((m + 1 : Nat) : Int) then (1 : Int) else 0) = 1 := if_pos (by omega)
                rw [h0]
                refine step_add (by omega) (by omega) (step_add (by omega) (by omega) ⟨G.length - (m + 1), by omega, m + 1, N12, ?_, eN.trans f12, by omega, rfl⟩)
                rw [h1]; rfl
              · have his : hasF a i c = false := by
                  cases h : hasF a i c with
                  | false => rfl
                  | true =>
                    rcases hn with ⟨_, h2⟩ | ⟨j, a', h1, hj, h2, _⟩
                    · have := h2 a (List.mem_of_getElem? ha)
                      rw [h] at this; cases this
                    · have := apart_uniq hapG ha hj h h2
                      omega
                have hloc : locF a i c = (0, 0) := by unfold locF; rw [if_neg (by rw [his]; simp)]
                have hst : (if 0 ≤ n ∧ n < (m : Int) then (1 : Int) else 0) = (if 0 ≤ n ∧ n < ((m + 1 : Nat) : Int) then (1 : Int) else 0) := by
                  by_cases h : 0 ≤ n ∧ n < (m : Int)
                  · rw [if_pos h, if_pos (by omega)]
                  · rw [if_neg h, if_neg (by omega)]
                rw [his, hloc, hst]
                refine s_eqF hmn ⟨.bool false, rfl, wpIf.ff ⟨.bool true, rfl, wpIf.tt ?_⟩⟩
                refine LGetN.as (posV (0, 0)) (by exact Nat.le_refl 2) rfl ⟨posV (0, 0), rfl, s_posSame (wpIf.ff (wpIf.ff (wpIf.ff ?_)))⟩
                exact step_add (by omega) (by omega) ⟨G.length - (m + 1), by omega, m + 1, N12, rfl, eN.trans f12, by omega, rfl⟩
            · refine law26_PaneApart_l11_out (law26_PaneApart_c10_wp ?_)
              have h2 : ¬ (if 0 ≤ n ∧ n < (m : Int) then (1 : Int) else 0) > 1 := by split <;> omega
              refine s_gtF h2 (wpIf.ff (law26_PaneApart_c7_wp (step_add (by omega) (by omega) ⟨C.toNat - (c + 1), by omega, c + 1, N, U', rfl, e011.trans eN, hU', by omega, rfl⟩)))
          · refine s_gtF hi0 (wpIf.ff ?_)
            have hU' : FreeTo R C G i ((c + 1 : Nat) : Int) U := ⟨hU.1, fun p => by
              rw [hU.2]
              constructor
              · rintro ⟨h1, h2, h3⟩; exact ⟨h1, h2, by omega⟩
              · rintro ⟨h1, h2, h3⟩; exact ⟨h1, h2, by omega⟩⟩
            refine law26_PaneApart_c9_wp ⟨law26_PaneApart_l11_m, a11I N11 R C G v w b1 (.int .u16 y0) (.int .u16 y1) (.int .i8 y2) i c n (.int .i64 U.length) b3, ⟨G.length, 0, N11, ?_, Ext.refl _, Nat.zero_le _, rfl⟩, ?_⟩
            · have : (if 0 ≤ n ∧ n < ((0 : Nat) : Int) then (1 : Int) else 0) = 0 := if_neg (by omega)
              rw [this]; rfl
            rintro k s ⟨m, N, rfl, eN, hm, rfl⟩
            refine law26_PaneApart_l11_wp (I := a11I N11 R C G v w b1 (.int .u16 y0) (.int .u16 y1) (.int .i8 y2) i c n (.int .i64 U.length) b3) ?_
            have f0N := e011.trans eN
            refine step_lenS (slG.ext f0N) (step_lss (wpIf.dec (fun g1 => ?_) (fun g1 => ?_)))
            · obtain ⟨a, ha⟩ : ∃ a, G[m]? = some a := ⟨_, List.getElem?_eq_getElem (by omega)⟩
              refine rd (slG.ext f0N) (by omega) (by rw [Int.toNat_natCast]; exact ha) fun _ => LGetN.as (posV ((i : Int), (c : Int))) (by exact Nat.le_refl 2) rfl (local_W (freeze_ok _) (hokG a (List.mem_of_getElem? ha)) ⟨by omega, by omega⟩ ⟨by omega, by omega⟩ fun N7 e7 => ⟨e7.keepF _, _, rfl, _, rfl, rfl, fun b10 N11 hb10 hN11 => ⟨⟨rfl, rfl, by decide⟩, fun N12 hN12 => ?_⟩⟩)
              have f7 := Ext.thaw e7
              have f11 : Ext N N11 := f7.trans (Ext.push' hN11)
              have t7 := f7.size
              have t11 : N11.size = (N7.thaw N.base).size + 1 := by rw [hN11]; rfl
              have f12 : Ext N N12 := hN12 ▸ f11.set (by omega) (by omega) _
              have hin := of_decide_eq_true (hinG a (List.mem_of_getElem? ha))
              by_cases hmn : (m : Int) = n
              · have his : hasF a i c = true := by
                  rcases hn with ⟨h, _⟩ | ⟨j, a', h, hj, h2, _⟩
                  · omega
                  · have : j = m := by omega
                    subst this
                    rw [ha] at hj; cases hj; exact h2
                have hloc : locF a i c = ((i : Int) - a.t, (c : Int) - a.l) := by unfold locF; rw [if_pos his]
                have hd := of_decide_eq_true his
                rw [his, hloc]
                refine s_eqT hmn ⟨.bool false, rfl, wpIf.ff ⟨.bool false, rfl, wpIf.ff (wpIf.tt ?_)⟩⟩
                refine LGet.mk (v := .int .i64 ((i : Int) - a.t)) rfl (s_ltF (by omega) (wpIf.ff (LGet.mk (v := .int .i64 ((i : Int) - a.t)) rfl ?_)))
                refine rd_f ((slG.ext f0N).ext f12) (by omega) (by rw [Int.toNat_natCast]; exact ha) (f := 2) rfl fun _ _ => s_geF (by omega) (wpIf.ff ?_)
                refine LGet.mk (v := .int .i64 ((c : Int) - a.l)) rfl (s_ltF (by omega) (wpIf.ff (LGet.mk (v := .int .i64 ((c : Int) - a.l)) rfl ?_)))
                refine rd_f ((slG.ext f0N).ext f12) (by omega) (by rw [Int.toNat_natCast]; exact ha) (f := 3) rfl fun _ _ => s_geF (by omega) (wpIf.ff (wpIf.tt ?_))
                have h0 : (if 0 ≤ n ∧ n < (m : Int) then (1 : Int) else 0) = 0 := if_neg (by omega)
                have h1 : (if 0 ≤ n ∧ n < ((m + 1 : Nat) : Int) then (1 : Int) else 0) = 1 := if_pos (by omega)
                rw [h0]
                refine step_add (by omega) (by omega) (step_add (by omega) (by omega) ⟨G.length - (m + 1), by omega, m + 1, N12, ?_, eN.trans f12, by omega, rfl⟩)
                rw [h1]; rfl
              · have his : hasF a i c = false := by
                  cases h : hasF a i c with
                  | false => rfl
                  | true =>
                    rcases hn with ⟨_, h2⟩ | ⟨j, a', h1, hj, h2, _⟩
                    · have := h2 a (List.mem_of_getElem? ha)
                      rw [h] at this; cases this
                    · have := apart_uniq hapG ha hj h h2
                      omega
                have hloc : locF a i c = (0, 0) := by unfold locF; rw [if_neg (by rw [his]; simp)]
                have hst : (if 0 ≤ n ∧ n < (m : Int) then (1 : Int) else 0) = (if 0 ≤ n ∧ n < ((m + 1 : Nat) : Int) then (1 : Int) else 0) := by
                  by_cases h : 0 ≤ n ∧ n < (m : Int)
                  · rw [if_pos h, if_pos (by omega)]
                  · rw [if_neg h, if_neg (by omega)]
                rw [his, hloc, hst]
                refine s_eqF hmn ⟨.bool false, rfl, wpIf.ff ⟨.bool true, rfl, wpIf.tt ?_⟩⟩
                refine LGetN.as (posV (0, 0)) (by exact Nat.le_refl 2) rfl ⟨posV (0, 0), rfl, s_posSame (wpIf.ff (wpIf.ff (wpIf.ff ?_)))⟩
                exact step_add (by omega) (by omega) ⟨G.length - (m + 1), by omega, m + 1, N12, rfl, eN.trans f12, by omega, rfl⟩
            · refine law26_PaneApart_l11_out (law26_PaneApart_c10_wp ?_)
              have h2 : ¬ (if 0 ≤ n ∧ n < (m : Int) then (1 : Int) else 0) > 1 := by split <;> omega
              refine s_gtF h2 (wpIf.ff (law26_PaneApart_c7_wp (step_add (by omega) (by omega) ⟨C.toNat - (c + 1), by omega, c + 1, N, U, rfl, e011.trans eN, hU', by omega, rfl⟩)))
        · refine s_ltF hneg (wpIf.ff ?_)
          have hU' : FreeTo R C G i ((c + 1 : Nat) : Int) U := ⟨hU.1, fun p => by
            rw [hU.2]
            constructor
            · rintro ⟨h1, h2, h3⟩; exact ⟨h1, h2, by omega⟩
            · rintro ⟨h1, h2, h3⟩
              refine ⟨h1, h2, ?_⟩
              by_cases hp : p.1 = i ∧ p.2 = c
              · exfalso
                rcases hn with ⟨h, _⟩ | ⟨j, a, _, hj, h, _⟩
                · omega
                · have := h2 a (List.mem_of_getElem? hj)
                  rw [hp.1, hp.2, h] at this; cases this
              · omega⟩
          refine law26_PaneApart_c9_wp ⟨law26_PaneApart_l11_m, a11I N11 R C G v w b1 (.int .u16 y0) (.int .u16 y1) (.int .i8 y2) i c n (.int .i64 U.length) b3, ⟨G.length, 0, N11, ?_, Ext.refl _, Nat.zero_le _, rfl⟩, ?_⟩
          · have : (if 0 ≤ n ∧ n < ((0 : Nat) : Int) then (1 : Int) else 0) = 0 := if_neg (by omega)
            rw [this]; rfl
          rintro k s ⟨m, N, rfl, eN, hm, rfl⟩
          refine law26_PaneApart_l11_wp (I := a11I N11 R C G v w b1 (.int .u16 y0) (.int .u16 y1) (.int .i8 y2) i c n (.int .i64 U.length) b3) ?_
          have f0N := e011.trans eN
          refine step_lenS (slG.ext f0N) (step_lss (wpIf.dec (fun g1 => ?_) (fun g1 => ?_)))
          · obtain ⟨a, ha⟩ : ∃ a, G[m]? = some a := ⟨_, List.getElem?_eq_getElem (by omega)⟩
            refine rd (slG.ext f0N) (by omega) (by rw [Int.toNat_natCast]; exact ha) fun _ => LGetN.as (posV ((i : Int), (c : Int))) (by exact Nat.le_refl 2) rfl (local_W (freeze_ok _) (hokG a (List.mem_of_getElem? ha)) ⟨by omega, by omega⟩ ⟨by omega, by omega⟩ fun N7 e7 => ⟨e7.keepF _, _, rfl, _, rfl, rfl, fun b10 N11 hb10 hN11 => ⟨⟨rfl, rfl, by decide⟩, fun N12 hN12 => ?_⟩⟩)
            have f7 := Ext.thaw e7
            have f11 : Ext N N11 := f7.trans (Ext.push' hN11)
            have t7 := f7.size
            have t11 : N11.size = (N7.thaw N.base).size + 1 := by rw [hN11]; rfl
            have f12 : Ext N N12 := hN12 ▸ f11.set (by omega) (by omega) _
            have hin := of_decide_eq_true (hinG a (List.mem_of_getElem? ha))
            by_cases hmn : (m : Int) = n
            · have his : hasF a i c = true := by
                rcases hn with ⟨h, _⟩ | ⟨j, a', h, hj, h2, _⟩
                · omega
                · have : j = m := by omega
                  subst this
                  rw [ha] at hj; cases hj; exact h2
              have hloc : locF a i c = ((i : Int) - a.t, (c : Int) - a.l) := by unfold locF; rw [if_pos his]
              have hd := of_decide_eq_true his
              rw [his, hloc]
              refine s_eqT hmn ⟨.bool false, rfl, wpIf.ff ⟨.bool false, rfl, wpIf.ff (wpIf.tt ?_)⟩⟩
              refine LGet.mk (v := .int .i64 ((i : Int) - a.t)) rfl (s_ltF (by omega) (wpIf.ff (LGet.mk (v := .int .i64 ((i : Int) - a.t)) rfl ?_)))
              refine rd_f ((slG.ext f0N).ext f12) (by omega) (by rw [Int.toNat_natCast]; exact ha) (f := 2) rfl fun _ _ => s_geF (by omega) (wpIf.ff ?_)
              refine LGet.mk (v := .int .i64 ((c : Int) - a.l)) rfl (s_ltF (by omega) (wpIf.ff (LGet.mk (v := .int .i64 ((c : Int) - a.l)) rfl ?_)))
              refine rd_f ((slG.ext f0N).ext f12) (by omega) (by rw [Int.toNat_natCast]; exact ha) (f := 3) rfl fun _ _ => s_geF (by omega) (wpIf.ff (wpIf.tt ?_))
              have h0 : (if 0 ≤ n ∧ n < (m : Int) then (1 : Int) else 0) = 0 := if_neg (by omega)
              have h1 : (if 0 ≤ n ∧ n < ((m + 1 : Nat) : Int) then (1 : Int) else 0) = 1 := if_pos (by omega)
              rw [h0]
              refine step_add (by omega) (by omega) (step_add (by omega) (by omega) ⟨G.length - (m + 1), by omega, m + 1, N12, ?_, eN.trans f12, by omega, rfl⟩)
              rw [h1]; rfl
            · have his : hasF a i c = false := by
                cases h : hasF a i c with
                | false => rfl
                | true =>
                  rcases hn with ⟨_, h2⟩ | ⟨j, a', h1, hj, h2, _⟩
                  · have := h2 a (List.mem_of_getElem? ha)
                    rw [h] at this; cases this
                  · have := apart_uniq hapG ha hj h h2
                    omega
              have hloc : locF a i c = (0, 0) := by unfold locF; rw [if_neg (by rw [his]; simp)]
              have hst : (if 0 ≤ n ∧ n < (m : Int) then (1 : Int) else 0) = (if 0 ≤ n ∧ n < ((m + 1 : Nat) : Int) then (1 : Int) else 0) := by
                by_cases h : 0 ≤ n ∧ n < (m : Int)
                · rw [if_pos h, if_pos (by omega)]
                · rw [if_neg h, if_neg (by omega)]
              rw [his, hloc, hst]
              refine s_eqF hmn ⟨.bool false, rfl, wpIf.ff ⟨.bool true, rfl, wpIf.tt ?_⟩⟩
              refine LGetN.as (posV (0, 0)) (by exact Nat.le_refl 2) rfl ⟨posV (0, 0), rfl, s_posSame (wpIf.ff (wpIf.ff (wpIf.ff ?_)))⟩
              exact step_add (by omega) (by omega) ⟨G.length - (m + 1), by omega, m + 1, N12, rfl, eN.trans f12, by omega, rfl⟩
          · refine law26_PaneApart_l11_out (law26_PaneApart_c10_wp ?_)
            have h2 : ¬ (if 0 ≤ n ∧ n < (m : Int) then (1 : Int) else 0) > 1 := by split <;> omega
            refine s_gtF h2 (wpIf.ff (law26_PaneApart_c7_wp (step_add (by omega) (by omega) ⟨C.toNat - (c + 1), by omega, c + 1, N, U, rfl, e011.trans eN, hU', by omega, rfl⟩)))
    · refine law26_PaneApart_l6_out (law26_PaneApart_c5_wp (step_add (by omega) (by omega) ⟨R.toNat - (i + 1), by omega, i + 1, M6, U, rfl, e6, ⟨hU.1, fun p => ?_⟩, by omega, rfl⟩))
      rw [hU.2]
      constructor
      · rintro ⟨h1, h2, h3⟩; exact ⟨h1, h2, by omega⟩
      · rintro ⟨h1, h2, h3⟩; exact ⟨h1, h2, by omega⟩
  · have hiR' : (i : Int) = R := by omega
    rw [hiR'] at hU
    have hsm := free_small (by omega) (by omega) hU
    refine law26_PaneApart_l4_out (law26_PaneApart_c3_wp ?_)
    have k4 := e4.ok kM'
    refine free_W k4 (slG.ext e4) hokG (by omega) (fun h => by rw [hs] at h; cases h) fun _ N2 f2 T hT => ⟨f2.keep _, ?_⟩
    have hfs := free_sum hs hinG hT hU
    have hts := taken_sum hs hinG hapG hT
    have hmul : 0 ≤ (R - 1) * C ∧ (R - 1) * C ≤ 511 * 512 := ⟨Int.mul_nonneg (by omega) (by omega), Int.mul_le_mul (by omega) (by omega) (by omega) (by omega)⟩
    refine s_eqT (by omega) (wpIf.tt (step_add (by omega) (by omega) (step_sub (by omega) (by omega) (step_mul (by omega) (by omega) (s_eqT (by omega) (wpIf.tt ?_))))))
    refine check_W (f2.ok k4) ((slB.ext e4).ext f2) (fun a ha => hokG a (List.mem_reverse.1 ha)) (by rw [List.length_reverse]; omega) ⟨by omega, by omega⟩ ⟨by omega, by omega⟩ fun M9 e9 => ⟨e9.keep _, ?_⟩
    rw [check_rev chk]
    exact s_eqT rfl (q _)
end
end Go.Proofs.Ytacabjkhhejjcaa.Run
