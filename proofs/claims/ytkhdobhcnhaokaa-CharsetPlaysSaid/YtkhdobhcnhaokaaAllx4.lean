/- Each theorem X.calls says: whenever the Lean function X.f answers r, the Go function of that name returns r, and what lay in memory stays as it was. Written by this session's own program (over the kit's printer, with texts of this session's own for some functions). -/
import Derived.Test.YtkhdobhcnhaokaaAllx0
import Derived.Test.YtkhdobhcnhaokaaAllx3
namespace Go.Proofs.Ytkhdobhcnhaokaa.All
open Go.RowKit Go.Proofs.YtkhdobhcnhaokaaW.PrintWords Go.Proofs.YtkhdobhcnhaokaaW.PrintLast Go.Proofs.YtkhdobhcnhaokaaW.PrintMore
attribute [local go_sem] max2_int min2_int max_two min_two max_three min_three max_four min_four   -- for this text's walks alone
set_option linter.unusedVariables false
set_option linter.unusedSimpArgs false

attribute [local go_sem high] ixA61
/-! ### charset_graphics: function 24 -/
-- (a text of this session's own)
def charset_graphics.f  : Option (Int × Int × Int × Int × Int × Int × Int × Int × Int × Int × Int × Int × Int × Int × Int × Int × Int × Int × Int × Int × Int × Int × Int × Int × Int × Int × Int × Int × Int × Int × Int × Int) := some (32, 9670, 9618, 9225, 9228, 9229, 9226, 176, 177, 9252, 9227, 9496, 9488, 9484, 9492, 9532, 9146, 9147, 9472, 9148, 9149, 9500, 9508, 9524, 9516, 9474, 8804, 8805, 960, 8800, 163, 183)
def charset_graphics.tab : List Int := [32, 9670, 9618, 9225, 9228, 9229, 9226, 176, 177, 9252, 9227, 9496, 9488, 9484, 9492, 9532, 9146, 9147, 9472, 9148, 9149, 9500, 9508, 9524, 9516, 9474, 8804, 8805, 960, 8800, 163, 183]
set_option maxRecDepth 100000 in
theorem charset_graphics.key (w : World) : Calls Try.prog 24 #[] w fun e w' => e = .returned (.agg (charset_graphics.tab.map (Value.int .i32)).toArray) ∧ Below w.heap.size w w' := by
  have hal : ∀ W : World, (Instr.alloc 61 true (.tuple #[])).run Try.prog W = .ok (.pointer (some ⟨W.heap.size, 0, none⟩)) (W.alloc (.cells ((List.replicate 32 (Value.int .i32 0)).toArray) 61)) := fun W => by kernel_rfl
  go_enter Try.func24, Try.ntmps24
  go_wp2_with (first | (refine wpList_buildFlatArr rfl 61 21 32 _ rfl .i32 charset_graphics.tab Try.underlying61 (by kernel_rfl) (by kernel_rfl) (by kernel_rfl) ?_) | (refine wpList_store_row rfl 61 _ _ rfl w.heap.size (charset_graphics.tab.map (Value.int .i32)).toArray rfl rfl 61 _ (heap_alloc_new w _) (by kernel_rfl) (by kernel_rfl) (by kernel_rfl) ?_))
  refine bodyPost_ret (results_cell_row rfl _ _ w.heap.size 61 _ (0, 0) _ rfl (setRow_heap _ _ _ _ _ _ (heap_alloc_new w _)) Try.underlying61 rfl (by kernel_rfl)) rfl ⟨rfl, ?_⟩
  exact Arr.below_setRow ((Below.refl w.heap.size w).alloc (Nat.le_refl _) _) _ _ (Nat.le_refl _)
theorem charset_graphics.calls  (r1 : Int) (r2 : Int) (r3 : Int) (r4 : Int) (r5 : Int) (r6 : Int) (r7 : Int) (r8 : Int) (r9 : Int) (r10 : Int) (r11 : Int) (r12 : Int) (r13 : Int) (r14 : Int) (r15 : Int) (r16 : Int) (r17 : Int) (r18 : Int) (r19 : Int) (r20 : Int) (r21 : Int) (r22 : Int) (r23 : Int) (r24 : Int) (r25 : Int) (r26 : Int) (r27 : Int) (r28 : Int) (r29 : Int) (r30 : Int) (r31 : Int) (r32 : Int) (w : World) (h : charset_graphics.f  = some (r1, r2, r3, r4, r5, r6, r7, r8, r9, r10, r11, r12, r13, r14, r15, r16, r17, r18, r19, r20, r21, r22, r23, r24, r25, r26, r27, r28, r29, r30, r31, r32)) :
    Calls Try.prog 24 #[] w fun e w' => e = .returned (.agg #[.int .i32 r1, .int .i32 r2, .int .i32 r3, .int .i32 r4, .int .i32 r5, .int .i32 r6, .int .i32 r7, .int .i32 r8, .int .i32 r9, .int .i32 r10, .int .i32 r11, .int .i32 r12, .int .i32 r13, .int .i32 r14, .int .i32 r15, .int .i32 r16, .int .i32 r17, .int .i32 r18, .int .i32 r19, .int .i32 r20, .int .i32 r21, .int .i32 r22, .int .i32 r23, .int .i32 r24, .int .i32 r25, .int .i32 r26, .int .i32 r27, .int .i32 r28, .int .i32 r29, .int .i32 r30, .int .i32 r31, .int .i32 r32]) ∧ Below w.heap.size w w' := by
  unfold charset_graphics.f at h
  simp only [Option.some.injEq, Prod.mk.injEq] at h
  obtain ⟨rfl, rfl, rfl, rfl, rfl, rfl, rfl, rfl, rfl, rfl, rfl, rfl, rfl, rfl, rfl, rfl, rfl, rfl, rfl, rfl, rfl, rfl, rfl, rfl, rfl, rfl, rfl, rfl, rfl, rfl, rfl, rfl⟩ := h
  exact charset_graphics.key w

/-! ### charset_Of: function 9 -/
def charset_Of.j0 : Nat → Int → Int → Bool → Option (Int)
  | 0, _, _, _ => none
  | k + 1, x0, x1, x5 => if x5 = true then (some 163) else (if x0 = 1 then (if x1 ≥ 95 then (if x1 ≤ 126 then ((charset_graphics.f).bind fun bt101 => (if 0 ≤ (wrap32 (x1 - 95)) then (if (wrap32 (x1 - 95)) < 32 then (some (rd [bt101.1, bt101.2.1, bt101.2.2.1, bt101.2.2.2.1, bt101.2.2.2.2.1, bt101.2.2.2.2.2.1, bt101.2.2.2.2.2.2.1, bt101.2.2.2.2.2.2.2.1, bt101.2.2.2.2.2.2.2.2.1, bt101.2.2.2.2.2.2.2.2.2.1, bt101.2.2.2.2.2.2.2.2.2.2.1, bt101.2.2.2.2.2.2.2.2.2.2.2.1, bt101.2.2.2.2.2.2.2.2.2.2.2.2.1, bt101.2.2.2.2.2.2.2.2.2.2.2.2.2.1, bt101.2.2.2.2.2.2.2.2.2.2.2.2.2.2.1, bt101.2.2.2.2.2.2.2.2.2.2.2.2.2.2.2.1, bt101.2.2.2.2.2.2.2.2.2.2.2.2.2.2.2.2.1, bt101.2.2.2.2.2.2.2.2.2.2.2.2.2.2.2.2.2.1, bt101.2.2.2.2.2.2.2.2.2.2.2.2.2.2.2.2.2.2.1, bt101.2.2.2.2.2.2.2.2.2.2.2.2.2.2.2.2.2.2.2.1, bt101.2.2.2.2.2.2.2.2.2.2.2.2.2.2.2.2.2.2.2.2.1, bt101.2.2.2.2.2.2.2.2.2.2.2.2.2.2.2.2.2.2.2.2.2.1, bt101.2.2.2.2.2.2.2.2.2.2.2.2.2.2.2.2.2.2.2.2.2.2.1, bt101.2.2.2.2.2.2.2.2.2.2.2.2.2.2.2.2.2.2.2.2.2.2.2.1, bt101.2.2.2.2.2.2.2.2.2.2.2.2.2.2.2.2.2.2.2.2.2.2.2.2.1, bt101.2.2.2.2.2.2.2.2.2.2.2.2.2.2.2.2.2.2.2.2.2.2.2.2.2.1, bt101.2.2.2.2.2.2.2.2.2.2.2.2.2.2.2.2.2.2.2.2.2.2.2.2.2.2.1, bt101.2.2.2.2.2.2.2.2.2.2.2.2.2.2.2.2.2.2.2.2.2.2.2.2.2.2.2.1, bt101.2.2.2.2.2.2.2.2.2.2.2.2.2.2.2.2.2.2.2.2.2.2.2.2.2.2.2.2.1, bt101.2.2.2.2.2.2.2.2.2.2.2.2.2.2.2.2.2.2.2.2.2.2.2.2.2.2.2.2.2.1, bt101.2.2.2.2.2.2.2.2.2.2.2.2.2.2.2.2.2.2.2.2.2.2.2.2.2.2.2.2.2.2.1, bt101.2.2.2.2.2.2.2.2.2.2.2.2.2.2.2.2.2.2.2.2.2.2.2.2.2.2.2.2.2.2.2] (wrap32 (x1 - 95)))) else (none)) else (none))) else (some x1)) else (some x1)) else (some x1))
def charset_Of.f (k : Nat) (a0 : Int) (a1 : Int) : Option (Int) := if a0 = 2 then (charset_Of.j0 k a0 a1 (a1 == 35)) else (charset_Of.j0 k a0 a1 false)
theorem charset_Of.mono_l : ∀ k, (∀ y0 y1 y2, LeO (charset_Of.j0 k y0 y1 y2) (charset_Of.j0 (k + 1) y0 y1 y2))
  | 0 => fun _ _ _ r h => by simp [charset_Of.j0] at h
  | k + 1 => by
    have ih0 := charset_Of.mono_l k
    · intro y0 y1 y2
      unfold charset_Of.j0
      repeat' first
      | (with_reducible exact ih0 _ _ _)
      | (with_reducible exact LeO.refl _)
      | (with_reducible exact LeO.none _)
      | (with_reducible refine LeO.ite ?_ ?_)
      | (with_reducible refine LeO.bind ?_ (fun _ => ?_))
      | exact ih0 _ _ _
      | exact LeO.none _
      | refine LeO.ite ?_ ?_
      | refine LeO.bind ?_ (fun _ => ?_)
theorem charset_Of.mono : ∀ a0 a1 k, LeO (charset_Of.f k a0 a1) (charset_Of.f (k + 1) a0 a1) := by
  intro a0 a1 k
  have ih0 := charset_Of.mono_l k
  unfold charset_Of.f
  repeat' first
      | (with_reducible exact ih0 _ _ _)
      | (with_reducible exact LeO.refl _)
      | (with_reducible exact LeO.none _)
      | (with_reducible refine LeO.ite ?_ ?_)
      | (with_reducible refine LeO.bind ?_ (fun _ => ?_))
      | exact ih0 _ _ _
      | exact LeO.none _
      | refine LeO.ite ?_ ?_
      | refine LeO.bind ?_ (fun _ => ?_)
set_option maxHeartbeats 8000000 in
set_option maxRecDepth 100000 in
theorem charset_Of.calls (k : Nat) (a0 : Int) (a1 : Int) (r : Int) (w : World) (h : charset_Of.f k a0 a1 = some r) :
    Calls Try.prog 9 #[.int .i64 a0, .int .i32 a1] w fun e w' => e = .returned (.int .i32 r) ∧ Below w.heap.size w w' := by
  have HB := Aside0.mk (Below.refl w.heap.size w)
  have H : (if a0 = 2 then (charset_Of.j0 k a0 a1 (a1 == 35)) else (charset_Of.j0 k a0 a1 false)) = some r := h
  clear h
  have HC3 := Aside0.mk H
  clear H
  go_enter Try.func9, Try.ntmps9
  go_upto_region 1 with (fail)
  go_cut [5] (fun v5 wc => ∃ (kq : Nat) (x5_2 : Bool), v5 = .bool x5_2 ∧ Aside0 (charset_Of.j0 kq a0 a1 x5_2 = some r) ∧ Aside0 (kq ≤ k) ∧ Aside0 (Below w.heap.size w wc))
  case first =>
    have H := HC3.out
    clear HC3
    by_cases c4 : a0 = 2
    · rw [if_pos c4] at H
      have c4b0 : (a0 == 2) = true := beq_iff_eq.mpr c4
      have c4b1 : (a0 != 2) = false := bne_eq_false_iff_eq.mpr c4
      clear c4
      (first | rw [c4b0] | (simp only [i64_w, i32_w]; rw [c4b0]) | skip)
      have H' := Aside0.mk H
      clear H
      go_wp2
      go_meet
      case rel => exact ⟨_, ((a1 == 35)), (by first | rfl | (simp; done) | (simp [*]; done)), H', ⟨by first | omega | exact Nat.le_refl _⟩, ⟨by repeat (first | (with_reducible first | exact HB.out | apply below_alloc | apply pw_below_drewN | apply below_drew1) | exact HB.out)⟩⟩
    · rw [if_neg c4] at H
      have c4b0 : (a0 == 2) = false := beq_eq_false_iff_ne.mpr c4
      have c4b1 : (a0 != 2) = true := bne_iff_ne.mpr c4
      (first | rw [c4b0] | (simp only [i64_w, i32_w]; rw [c4b0]) | skip)
      have H' := Aside0.mk H
      clear H
      go_wp2
      go_meet
      case rel => exact ⟨_, (false), (by first | rfl | (simp; done) | (simp [*]; done)), H', ⟨by first | omega | exact Nat.le_refl _⟩, ⟨by repeat (first | (with_reducible first | exact HB.out | apply below_alloc | apply pw_below_drewN | apply below_drew1) | exact HB.out)⟩⟩
  case rest =>
    clear HC3
    try clear p2
    try clear c4
    try clear c4b0
    try clear c4b1
    obtain ⟨kq, x5_2, rfl, HA, HJ2, HB⟩ := hcut
    cases kq with
    | zero => exact absurd HA.out (by simp [charset_Of.j0])
    | succ kj2 =>
      have H := HA.out
      clear HA
      simp only [charset_Of.j0] at H
      by_cases c5 : x5_2 = true
      · subst c5
        have H1 : (some 163) = some r := by rw [if_pos rfl] at H; exact H
        clear H
        have H := H1
        clear H1
        obtain rfl := Option.some.inj H
        go_wp2
        go_ret
        exact ⟨by first | rfl | (simp [errW_none, errW_some] <;> rfl) | (simp [*, errW_none, errW_some] <;> rfl), by repeat (first | (with_reducible first | exact HB.out | apply below_alloc | apply pw_below_drewN | apply below_drew1) | exact HB.out)⟩
      · replace c5 := Bool.eq_false_iff.mpr c5
        subst c5
        have H1 : (if a0 = 1 then (if a1 ≥ 95 then (if a1 ≤ 126 then ((charset_graphics.f).bind fun bt101 => (if 0 ≤ (wrap32 (a1 - 95)) then (if (wrap32 (a1 - 95)) < 32 then (some (rd [bt101.1, bt101.2.1, bt101.2.2.1, bt101.2.2.2.1, bt101.2.2.2.2.1, bt101.2.2.2.2.2.1, bt101.2.2.2.2.2.2.1, bt101.2.2.2.2.2.2.2.1, bt101.2.2.2.2.2.2.2.2.1, bt101.2.2.2.2.2.2.2.2.2.1, bt101.2.2.2.2.2.2.2.2.2.2.1, bt101.2.2.2.2.2.2.2.2.2.2.2.1, bt101.2.2.2.2.2.2.2.2.2.2.2.2.1, bt101.2.2.2.2.2.2.2.2.2.2.2.2.2.1, bt101.2.2.2.2.2.2.2.2.2.2.2.2.2.2.1, bt101.2.2.2.2.2.2.2.2.2.2.2.2.2.2.2.1, bt101.2.2.2.2.2.2.2.2.2.2.2.2.2.2.2.2.1, bt101.2.2.2.2.2.2.2.2.2.2.2.2.2.2.2.2.2.1, bt101.2.2.2.2.2.2.2.2.2.2.2.2.2.2.2.2.2.2.1, bt101.2.2.2.2.2.2.2.2.2.2.2.2.2.2.2.2.2.2.2.1, bt101.2.2.2.2.2.2.2.2.2.2.2.2.2.2.2.2.2.2.2.2.1, bt101.2.2.2.2.2.2.2.2.2.2.2.2.2.2.2.2.2.2.2.2.2.1, bt101.2.2.2.2.2.2.2.2.2.2.2.2.2.2.2.2.2.2.2.2.2.2.1, bt101.2.2.2.2.2.2.2.2.2.2.2.2.2.2.2.2.2.2.2.2.2.2.2.1, bt101.2.2.2.2.2.2.2.2.2.2.2.2.2.2.2.2.2.2.2.2.2.2.2.2.1, bt101.2.2.2.2.2.2.2.2.2.2.2.2.2.2.2.2.2.2.2.2.2.2.2.2.2.1, bt101.2.2.2.2.2.2.2.2.2.2.2.2.2.2.2.2.2.2.2.2.2.2.2.2.2.2.1, bt101.2.2.2.2.2.2.2.2.2.2.2.2.2.2.2.2.2.2.2.2.2.2.2.2.2.2.2.1, bt101.2.2.2.2.2.2.2.2.2.2.2.2.2.2.2.2.2.2.2.2.2.2.2.2.2.2.2.2.1, bt101.2.2.2.2.2.2.2.2.2.2.2.2.2.2.2.2.2.2.2.2.2.2.2.2.2.2.2.2.2.1, bt101.2.2.2.2.2.2.2.2.2.2.2.2.2.2.2.2.2.2.2.2.2.2.2.2.2.2.2.2.2.2.1, bt101.2.2.2.2.2.2.2.2.2.2.2.2.2.2.2.2.2.2.2.2.2.2.2.2.2.2.2.2.2.2.2] (wrap32 (a1 - 95)))) else (none)) else (none))) else (some a1)) else (some a1)) else (some a1)) = some r := by rw [if_neg (show ¬ (false = true) by decide)] at H; exact H
        clear H
        have H := H1
        clear H1
        by_cases c6 : a0 = 1
        · rw [if_pos c6] at H
          have c6b0 : (a0 == 1) = true := beq_iff_eq.mpr c6
          have c6b1 : (a0 != 1) = false := bne_eq_false_iff_eq.mpr c6
          clear c6
          by_cases c7 : a1 ≥ 95
          · rw [if_pos c7] at H
            have c7b0 : decide (95 ≤ a1) = true := decide_eq_true c7
            clear c7
            by_cases c8 : a1 ≤ 126
            · rw [if_pos c8] at H
              have c8b0 : decide (a1 ≤ 126) = true := decide_eq_true c8
              clear c8
              replace H := Option.bind_eq_some_iff.mp H
              obtain ⟨⟨t101, t102, t103, t104, t105, t106, t107, t108, t109, t110, t111, t112, t113, t114, t115, t116, t117, t118, t119, t120, t121, t122, t123, t124, t125, t126, t127, t128, t129, t130, t131, t132⟩, A90, H⟩ := H
              replace H : (if 0 ≤ (wrap32 (a1 - 95)) then (if (wrap32 (a1 - 95)) < 32 then (some (rd [t101, t102, t103, t104, t105, t106, t107, t108, t109, t110, t111, t112, t113, t114, t115, t116, t117, t118, t119, t120, t121, t122, t123, t124, t125, t126, t127, t128, t129, t130, t131, t132] (wrap32 (a1 - 95)))) else (none)) else (none)) = some r := H
              have A9 := Aside0.mk A90
              clear A90
              obtain ⟨ji10, hji10⟩ : ∃ j_ : Int, (wrap32 (a1 - 95)) = j_ := ⟨_, rfl⟩
              replace H : (if 0 ≤ (ji10) then (if (ji10) < 32 then (some (rd [t101, t102, t103, t104, t105, t106, t107, t108, t109, t110, t111, t112, t113, t114, t115, t116, t117, t118, t119, t120, t121, t122, t123, t124, t125, t126, t127, t128, t129, t130, t131, t132] (ji10))) else (none)) else (none)) = some r := by first | (rw [hji10] at H; exact H) | (simp only [hji10] at H ⊢; exact H)
              (try rw [hji10] at A9)
              have hji10w : (IntKind.i32.wrap (a1 - 95)) = ji10 := (i32_w _).trans hji10
              by_cases c11 : 0 ≤ (ji10)
              · rw [if_pos c11] at H
                have c11b0 : decide (0 ≤ (ji10)) = true := decide_eq_true c11
                clear c11
                by_cases c12 : (ji10) < 32
                · rw [if_pos c12] at H
                  have c12b0 : decide ((ji10) < 32) = true := decide_eq_true c12
                  clear c12
                  obtain rfl := Option.some.inj H
                  go_wp2_with (first | ((with_reducible refine gate_callee (f := 24) rfl ?_); refine goesL_ (some 23) rfl rfl Try.func24 (by kernel_rfl) rfl #[] rfl (by (try simp only [List.map_toArray, List.map_cons, List.map_nil]); first | done | rfl | (simp only [List.length_drop, List.length_take]; rfl)) ?_; (with_reducible refine (charset_graphics.calls  t101 t102 t103 t104 t105 t106 t107 t108 t109 t110 t111 t112 t113 t114 t115 t116 t117 t118 t119 t120 t121 t122 t123 t124 t125 t126 t127 t128 t129 t130 t131 t132 _ A9.out).mono ?_); rintro e w13 ⟨rfl, hb⟩; refine ⟨_, rfl, ?_⟩; have n0_ := Aside0.mk (below_step (by repeat (first | (with_reducible first | exact HB.out | apply below_alloc | apply pw_below_drewN | apply below_drew1) | exact HB.out)) hb); clear HB; have HB := n0_; clear n0_; (try clear hb); (try clear hb2); (try clear hk); (try clear hi)))
                  go_ret
                  exact ⟨by first | rfl | (simp [errW_none, errW_some] <;> rfl) | (simp only [← hji10]; first | rfl | (simp [errW_none, errW_some] <;> rfl)) | (simp [*, errW_none, errW_some] <;> rfl), by repeat (first | (with_reducible first | exact HB.out | apply below_alloc | apply pw_below_drewN | apply below_drew1) | exact HB.out)⟩
                · rw [if_neg c12] at H
                  exact absurd H (by simp)
              · rw [if_neg c11] at H
                exact absurd H (by simp)
            · rw [if_neg c8] at H
              have c8b0 : decide (a1 ≤ 126) = false := decide_eq_false c8
              clear c8
              obtain rfl := Option.some.inj H
              go_wp2
              go_ret
              exact ⟨by first | rfl | (simp [errW_none, errW_some] <;> rfl) | (simp [*, errW_none, errW_some] <;> rfl), by repeat (first | (with_reducible first | exact HB.out | apply below_alloc | apply pw_below_drewN | apply below_drew1) | exact HB.out)⟩
          · rw [if_neg c7] at H
            have c7b0 : decide (95 ≤ a1) = false := decide_eq_false c7
            clear c7
            obtain rfl := Option.some.inj H
            go_wp2
            go_ret
            exact ⟨by first | rfl | (simp [errW_none, errW_some] <;> rfl) | (simp [*, errW_none, errW_some] <;> rfl), by repeat (first | (with_reducible first | exact HB.out | apply below_alloc | apply pw_below_drewN | apply below_drew1) | exact HB.out)⟩
        · rw [if_neg c6] at H
          have c6b0 : (a0 == 1) = false := beq_eq_false_iff_ne.mpr c6
          have c6b1 : (a0 != 1) = true := bne_iff_ne.mpr c6
          obtain rfl := Option.some.inj H
          go_wp2
          go_ret
          exact ⟨by first | rfl | (simp [errW_none, errW_some] <;> rfl) | (simp [*, errW_none, errW_some] <;> rfl), by repeat (first | (with_reducible first | exact HB.out | apply below_alloc | apply pw_below_drewN | apply below_drew1) | exact HB.out)⟩

/-! ### marqueeref05_Of: function 10 -/
def marqueeref05_Of.j0 : Nat → Int → Int → Bool → Option (Int)
  | 0, _, _, _ => none
  | k + 1, x0, x1, x11 => if x11 = true then (some 163) else (if x0 = 1 then (if x1 < 95 then (some x1) else (if x1 > 126 then (some x1) else ((some (([32, 9670, 9618, 9225, 9228, 9229, 9226, 176, 177, 9252, 9227, 9496, 9488, 9484, 9492, 9532, 9146, 9147, 9472, 9148, 9149, 9500, 9508, 9524, 9516, 9474, 8804, 8805, 960, 8800, 163, 183] : List Int) : List Int)).bind fun y133 => (if 0 ≤ (wrap32 (x1 - 95)) then (if (wrap32 (x1 - 95)) < (y133.length : Int) then (some (rd y133 (wrap32 (x1 - 95)))) else (none)) else (none))))) else (some x1))
def marqueeref05_Of.f (k : Nat) (a0 : Int) (a1 : Int) : Option (Int) := if a0 = 2 then (marqueeref05_Of.j0 k a0 a1 (a1 == 35)) else (marqueeref05_Of.j0 k a0 a1 false)
theorem marqueeref05_Of.mono_l : ∀ k, (∀ y0 y1 y2, LeO (marqueeref05_Of.j0 k y0 y1 y2) (marqueeref05_Of.j0 (k + 1) y0 y1 y2))
  | 0 => fun _ _ _ r h => by simp [marqueeref05_Of.j0] at h
  | k + 1 => by
    have ih0 := marqueeref05_Of.mono_l k
    · intro y0 y1 y2
      unfold marqueeref05_Of.j0
      repeat' first
      | (with_reducible exact ih0 _ _ _)
      | (with_reducible exact LeO.refl _)
      | (with_reducible exact LeO.none _)
      | (with_reducible refine LeO.ite ?_ ?_)
      | (with_reducible refine LeO.bind ?_ (fun _ => ?_))
      | exact ih0 _ _ _
      | exact LeO.none _
      | refine LeO.ite ?_ ?_
      | refine LeO.bind ?_ (fun _ => ?_)
theorem marqueeref05_Of.mono : ∀ a0 a1 k, LeO (marqueeref05_Of.f k a0 a1) (marqueeref05_Of.f (k + 1) a0 a1) := by
  intro a0 a1 k
  have ih0 := marqueeref05_Of.mono_l k
  unfold marqueeref05_Of.f
  repeat' first
      | (with_reducible exact ih0 _ _ _)
      | (with_reducible exact LeO.refl _)
      | (with_reducible exact LeO.none _)
      | (with_reducible refine LeO.ite ?_ ?_)
      | (with_reducible refine LeO.bind ?_ (fun _ => ?_))
      | exact ih0 _ _ _
      | exact LeO.none _
      | refine LeO.ite ?_ ?_
      | refine LeO.bind ?_ (fun _ => ?_)
set_option maxHeartbeats 8000000 in
set_option maxRecDepth 100000 in
theorem marqueeref05_Of.calls (k : Nat) (a0 : Int) (a1 : Int) (r : Int) (w : World) (h : marqueeref05_Of.f k a0 a1 = some r) :
    Calls Try.prog 10 #[.int .i64 a0, .int .i32 a1] w fun e w' => e = .returned (.int .i32 r) ∧ Below w.heap.size w w' := by
  have HB := Aside0.mk (Below.refl w.heap.size w)
  have H : (if a0 = 2 then (marqueeref05_Of.j0 k a0 a1 (a1 == 35)) else (marqueeref05_Of.j0 k a0 a1 false)) = some r := h
  clear h
  have HC3 := Aside0.mk H
  clear H
  go_enter Try.func10, Try.ntmps10
  go_upto_region 1 with (fail)
  go_cut [11] (fun v11 wc => ∃ (kq : Nat) (x11_2 : Bool), v11 = .bool x11_2 ∧ Aside0 (marqueeref05_Of.j0 kq a0 a1 x11_2 = some r) ∧ Aside0 (kq ≤ k) ∧ Aside0 (Below w.heap.size w wc))
  case first =>
    have H := HC3.out
    clear HC3
    by_cases c4 : a0 = 2
    · rw [if_pos c4] at H
      have c4b0 : (a0 == 2) = true := beq_iff_eq.mpr c4
      have c4b1 : (a0 != 2) = false := bne_eq_false_iff_eq.mpr c4
      clear c4
      (first | rw [c4b0] | (simp only [i64_w, i32_w]; rw [c4b0]) | skip)
      have H' := Aside0.mk H
      clear H
      go_wp2
      go_meet
      case rel => exact ⟨_, ((a1 == 35)), (by first | rfl | (simp; done) | (simp [*]; done)), H', ⟨by first | omega | exact Nat.le_refl _⟩, ⟨by repeat (first | (with_reducible first | exact HB.out | apply below_alloc | apply pw_below_drewN | apply below_drew1) | exact HB.out)⟩⟩
    · rw [if_neg c4] at H
      have c4b0 : (a0 == 2) = false := beq_eq_false_iff_ne.mpr c4
      have c4b1 : (a0 != 2) = true := bne_iff_ne.mpr c4
      (first | rw [c4b0] | (simp only [i64_w, i32_w]; rw [c4b0]) | skip)
      have H' := Aside0.mk H
      clear H
      go_wp2
      go_meet
      case rel => exact ⟨_, (false), (by first | rfl | (simp; done) | (simp [*]; done)), H', ⟨by first | omega | exact Nat.le_refl _⟩, ⟨by repeat (first | (with_reducible first | exact HB.out | apply below_alloc | apply pw_below_drewN | apply below_drew1) | exact HB.out)⟩⟩
  case rest =>
    clear HC3
    try clear c1
    try clear p2
    try clear c4
    try clear c4b0
    try clear c4b1
    obtain ⟨kq, x11_2, rfl, HA, HJ2, HB⟩ := hcut
    cases kq with
    | zero => exact absurd HA.out (by simp [marqueeref05_Of.j0])
    | succ kj2 =>
      have H := HA.out
      clear HA
      simp only [marqueeref05_Of.j0] at H
      by_cases c5 : x11_2 = true
      · subst c5
        have H1 : (some 163) = some r := by rw [if_pos rfl] at H; exact H
        clear H
        have H := H1
        clear H1
        obtain rfl := Option.some.inj H
        go_wp2
        go_ret
        exact ⟨by first | rfl | (simp [errW_none, errW_some] <;> rfl) | (simp [*, errW_none, errW_some] <;> rfl), by repeat (first | (with_reducible first | exact HB.out | apply below_alloc | apply pw_below_drewN | apply below_drew1) | exact HB.out)⟩
      · replace c5 := Bool.eq_false_iff.mpr c5
        subst c5
        have H1 : (if a0 = 1 then (if a1 < 95 then (some a1) else (if a1 > 126 then (some a1) else ((some (([32, 9670, 9618, 9225, 9228, 9229, 9226, 176, 177, 9252, 9227, 9496, 9488, 9484, 9492, 9532, 9146, 9147, 9472, 9148, 9149, 9500, 9508, 9524, 9516, 9474, 8804, 8805, 960, 8800, 163, 183] : List Int) : List Int)).bind fun y133 => (if 0 ≤ (wrap32 (a1 - 95)) then (if (wrap32 (a1 - 95)) < (y133.length : Int) then (some (rd y133 (wrap32 (a1 - 95)))) else (none)) else (none))))) else (some a1)) = some r := by rw [if_neg (show ¬ (false = true) by decide)] at H; exact H
        clear H
        have H := H1
        clear H1
        by_cases c6 : a0 = 1
        · rw [if_pos c6] at H
          have c6b0 : (a0 == 1) = true := beq_iff_eq.mpr c6
          have c6b1 : (a0 != 1) = false := bne_eq_false_iff_eq.mpr c6
          clear c6
          by_cases c7 : a1 < 95
          · rw [if_pos c7] at H
            have c7b0 : decide (a1 < 95) = true := decide_eq_true c7
            clear c7
            obtain rfl := Option.some.inj H
            go_wp2
            go_ret
            exact ⟨by first | rfl | (simp [errW_none, errW_some] <;> rfl) | (simp [*, errW_none, errW_some] <;> rfl), by repeat (first | (with_reducible first | exact HB.out | apply below_alloc | apply pw_below_drewN | apply below_drew1) | exact HB.out)⟩
          · rw [if_neg c7] at H
            have c7b0 : decide (a1 < 95) = false := decide_eq_false c7
            clear c7
            by_cases c8 : a1 > 126
            · rw [if_pos c8] at H
              have c8b0 : decide (126 < a1) = true := decide_eq_true c8
              clear c8
              obtain rfl := Option.some.inj H
              go_wp2
              go_ret
              exact ⟨by first | rfl | (simp [errW_none, errW_some] <;> rfl) | (simp [*, errW_none, errW_some] <;> rfl), by repeat (first | (with_reducible first | exact HB.out | apply below_alloc | apply pw_below_drewN | apply below_drew1) | exact HB.out)⟩
            · rw [if_neg c8] at H
              have c8b0 : decide (126 < a1) = false := decide_eq_false c8
              clear c8
              obtain ⟨y133, hy133⟩ : ∃ y_ : List Int, y_ = (([32, 9670, 9618, 9225, 9228, 9229, 9226, 176, 177, 9252, 9227, 9496, 9488, 9484, 9492, 9532, 9146, 9147, 9472, 9148, 9149, 9500, 9508, 9524, 9516, 9474, 8804, 8805, 960, 8800, 163, 183] : List Int)) := ⟨_, rfl⟩
              replace H : (if 0 ≤ (wrap32 (a1 - 95)) then (if (wrap32 (a1 - 95)) < (y133.length : Int) then (some (rd y133 (wrap32 (a1 - 95)))) else (none)) else (none)) = some r := by first | (rw [hy133]; with_reducible exact H) | (have H2_ := (Option.bind_some _ _).symm.trans H; rw [hy133]; with_reducible exact H2_) | (have H2_ := (Option.bind_some _ _).symm.trans H; with_reducible exact H2_) | with_reducible exact H | (rw [hy133]; exact H) | exact H
              have Ny133 := Aside0.mk hy133
              clear hy133
              obtain ⟨ji9, hji9⟩ : ∃ j_ : Int, (wrap32 (a1 - 95)) = j_ := ⟨_, rfl⟩
              replace H : (if 0 ≤ (ji9) then (if (ji9) < (y133.length : Int) then (some (rd y133 (ji9))) else (none)) else (none)) = some r := by first | (rw [hji9] at H; exact H) | (simp only [hji9] at H ⊢; exact H)
              have hji9w : (IntKind.i32.wrap (a1 - 95)) = ji9 := (i32_w _).trans hji9
              by_cases c10 : 0 ≤ (ji9)
              · rw [if_pos c10] at H
                have c10b0 : decide (0 ≤ (ji9)) = true := decide_eq_true c10
                clear c10
                by_cases c11 : (ji9) < (y133.length : Int)
                · rw [if_pos c11] at H
                  have c11b0 : decide ((ji9) < (y133.length : Int)) = true := decide_eq_true c11
                  clear c11
                  obtain rfl := Option.some.inj H
                  go_wp2_with (first | ((with_reducible refine gate_dst (N := 23) rfl ?_); refine Kd.R_lit (Kd.int .i32) _ 21 ?hg (N := 23) ?hd (xs := ([32, 9670, 9618, 9225, 9228, 9229, 9226, 176, 177, 9252, 9227, 9496, 9488, 9484, 9492, 9532, 9146, 9147, 9472, 9148, 9149, 9500, 9508, 9524, 9516, 9474, 8804, 8805, 960, 8800, 163, 183] : List Int)) (inner := [.int .i32 32, .int .i32 9670, .int .i32 9618, .int .i32 9225, .int .i32 9228, .int .i32 9229, .int .i32 9226, .int .i32 176, .int .i32 177, .int .i32 9252, .int .i32 9227, .int .i32 9496, .int .i32 9488, .int .i32 9484, .int .i32 9492, .int .i32 9532, .int .i32 9146, .int .i32 9147, .int .i32 9472, .int .i32 9148, .int .i32 9149, .int .i32 9500, .int .i32 9508, .int .i32 9524, .int .i32 9516, .int .i32 9474, .int .i32 8804, .int .i32 8805, .int .i32 960, .int .i32 8800, .int .i32 163, .int .i32 183]) (ok := fun _ => True) (okp := fun _ => True) ?hr ?hp (fun _ hk => hk) trivial (Below.refl _ _) (Nat.le_refl _) (by simp) ?_; (case hd => rfl); (case hg => rfl); (case hr => first | (go_simp; done) | (go_simp; rfl)); (case hp => exact (Reps.one (show Kd.M (Kd.int .i32) _ _ _ 32 [.int .i32 32] from rfl) (Reps.one (show Kd.M (Kd.int .i32) _ _ _ 9670 [.int .i32 9670] from rfl) (Reps.one (show Kd.M (Kd.int .i32) _ _ _ 9618 [.int .i32 9618] from rfl) (Reps.one (show Kd.M (Kd.int .i32) _ _ _ 9225 [.int .i32 9225] from rfl) (Reps.one (show Kd.M (Kd.int .i32) _ _ _ 9228 [.int .i32 9228] from rfl) (Reps.one (show Kd.M (Kd.int .i32) _ _ _ 9229 [.int .i32 9229] from rfl) (Reps.one (show Kd.M (Kd.int .i32) _ _ _ 9226 [.int .i32 9226] from rfl) (Reps.one (show Kd.M (Kd.int .i32) _ _ _ 176 [.int .i32 176] from rfl) (Reps.one (show Kd.M (Kd.int .i32) _ _ _ 177 [.int .i32 177] from rfl) (Reps.one (show Kd.M (Kd.int .i32) _ _ _ 9252 [.int .i32 9252] from rfl) (Reps.one (show Kd.M (Kd.int .i32) _ _ _ 9227 [.int .i32 9227] from rfl) (Reps.one (show Kd.M (Kd.int .i32) _ _ _ 9496 [.int .i32 9496] from rfl) (Reps.one (show Kd.M (Kd.int .i32) _ _ _ 9488 [.int .i32 9488] from rfl) (Reps.one (show Kd.M (Kd.int .i32) _ _ _ 9484 [.int .i32 9484] from rfl) (Reps.one (show Kd.M (Kd.int .i32) _ _ _ 9492 [.int .i32 9492] from rfl) (Reps.one (show Kd.M (Kd.int .i32) _ _ _ 9532 [.int .i32 9532] from rfl) (Reps.one (show Kd.M (Kd.int .i32) _ _ _ 9146 [.int .i32 9146] from rfl) (Reps.one (show Kd.M (Kd.int .i32) _ _ _ 9147 [.int .i32 9147] from rfl) (Reps.one (show Kd.M (Kd.int .i32) _ _ _ 9472 [.int .i32 9472] from rfl) (Reps.one (show Kd.M (Kd.int .i32) _ _ _ 9148 [.int .i32 9148] from rfl) (Reps.one (show Kd.M (Kd.int .i32) _ _ _ 9149 [.int .i32 9149] from rfl) (Reps.one (show Kd.M (Kd.int .i32) _ _ _ 9500 [.int .i32 9500] from rfl) (Reps.one (show Kd.M (Kd.int .i32) _ _ _ 9508 [.int .i32 9508] from rfl) (Reps.one (show Kd.M (Kd.int .i32) _ _ _ 9524 [.int .i32 9524] from rfl) (Reps.one (show Kd.M (Kd.int .i32) _ _ _ 9516 [.int .i32 9516] from rfl) (Reps.one (show Kd.M (Kd.int .i32) _ _ _ 9474 [.int .i32 9474] from rfl) (Reps.one (show Kd.M (Kd.int .i32) _ _ _ 8804 [.int .i32 8804] from rfl) (Reps.one (show Kd.M (Kd.int .i32) _ _ _ 8805 [.int .i32 8805] from rfl) (Reps.one (show Kd.M (Kd.int .i32) _ _ _ 960 [.int .i32 960] from rfl) (Reps.one (show Kd.M (Kd.int .i32) _ _ _ 8800 [.int .i32 8800] from rfl) (Reps.one (show Kd.M (Kd.int .i32) _ _ _ 163 [.int .i32 163] from rfl) (Reps.one (show Kd.M (Kd.int .i32) _ _ _ 183 [.int .i32 183] from rfl) (Reps.none _ _)))))))))))))))))))))))))))))))))); intro v134 w12 ho13 hb hg_ hnew_; clear hg_ hnew_; (first | rw [← Ny133.out] at ho13 | (simp only [Int.reduceToNat] at ho13; rw [← Ny133.out] at ho13)); have n0_ := Aside0.mk (Kd.R_lower ho13 (below_size (by repeat (first | (with_reducible first | exact HB.out | apply below_alloc | apply pw_below_drewN | apply below_drew1) | exact HB.out)))); have n1_ := Aside0.mk (below_step (by repeat (first | (with_reducible first | exact HB.out | apply below_alloc | apply pw_below_drewN | apply below_drew1) | exact HB.out)) hb); clear HB; have HO135 := n0_; have HB := n1_; clear n0_ n1_; clear hb ho13; obtain ⟨Ao14, co14, eo14⟩ := Kd.R_slice HO135.out; subst eo14; have p136 : 0 ≤ ((ji9) : Int) := of_decide_eq_true (by first | (with_reducible assumption) | assumption); have q136 : (ji9) < (y133.length : Int) := of_decide_eq_true (by first | (with_reducible assumption) | assumption); obtain ⟨ad136, e136, hx136_0⟩ := Kd.at_int (Kd.R_reads' HO135.out).2.2 (ji9) p136 q136; cases e136; replace p136 := eq_true p136; replace q136 := eq_true q136))
                  go_ret
                  exact ⟨by first | rfl | (simp [errW_none, errW_some] <;> rfl) | (simp only [← hji9]; first | rfl | (simp [errW_none, errW_some] <;> rfl)) | (simp [*, errW_none, errW_some] <;> rfl), by repeat (first | (with_reducible first | exact HB.out | apply below_alloc | apply pw_below_drewN | apply below_drew1) | exact HB.out)⟩
                · rw [if_neg c11] at H
                  exact absurd H (by simp)
              · rw [if_neg c10] at H
                exact absurd H (by simp)
        · rw [if_neg c6] at H
          have c6b0 : (a0 == 1) = false := beq_eq_false_iff_ne.mpr c6
          have c6b1 : (a0 != 1) = true := bne_iff_ne.mpr c6
          obtain rfl := Option.some.inj H
          go_wp2
          go_ret
          exact ⟨by first | rfl | (simp [errW_none, errW_some] <;> rfl) | (simp [*, errW_none, errW_some] <;> rfl), by repeat (first | (with_reducible first | exact HB.out | apply below_alloc | apply pw_below_drewN | apply below_drew1) | exact HB.out)⟩

/-! ### charset_Choice_Now: function 22 -/
def charset_Choice_Now.f (a0_0 : Int) (a0_1 : Int) (a0_2 : Int) (a0_3 : Int) (a0_4 : Int) (a0_5 : Int) : Option (Int) := if a0_5 = 0 then (some (wrap64 (a0_4))) else (some (wrap64 (a0_5)))
set_option maxHeartbeats 8000000 in
set_option maxRecDepth 100000 in
theorem charset_Choice_Now.calls (a0_0 : Int) (a0_1 : Int) (a0_2 : Int) (a0_3 : Int) (a0_4 : Int) (a0_5 : Int) (r : Int) (w : World) (h : charset_Choice_Now.f a0_0 a0_1 a0_2 a0_3 a0_4 a0_5 = some r) :
    Calls Try.prog 22 #[.agg #[.int .u8 a0_0, .int .u8 a0_1, .int .u8 a0_2, .int .u8 a0_3, .int .u8 a0_4, .int .u8 a0_5]] w fun e w' => e = .returned (.int .i64 r) ∧ Below w.heap.size w w' := by
  have hu32 := Try.underlying32
  have HB := Aside0.mk (Below.refl w.heap.size w)
  have H : (if a0_5 = 0 then (some (wrap64 (a0_4))) else (some (wrap64 (a0_5)))) = some r := h
  clear h
  by_cases c2 : a0_5 = 0
  · rw [if_pos c2] at H
    have c2b0 : (a0_5 == 0) = true := beq_iff_eq.mpr c2
    have c2b1 : (a0_5 != 0) = false := bne_eq_false_iff_eq.mpr c2
    clear c2
    obtain rfl := Option.some.inj H
    go_enter Try.func22, Try.ntmps22
    go_wp2_with (first | ((with_reducible refine gate_dst (N := 1) rfl ?_); refine box_event ?hg (N := 1) ?hd (cs := #[.int .u8 a0_0, .int .u8 a0_1, .int .u8 a0_2, .int .u8 a0_3, .int .u8 a0_4, .int .u8 a0_5]) (t := 32) ?hr ?_; (case hd => rfl); (case hg => rfl); (case hr => first | (go_simp; done) | (go_simp; rfl)); intro gb137 hg w3 hbox hb; have n0_ := Aside0.mk (below_step (by repeat (first | (with_reducible first | exact HB.out | apply below_alloc | apply pw_below_drewN | apply below_drew1) | exact HB.out)) hb); have n1_ := Aside0.mk (hbox); have n2_ := Aside0.mk ((by rw [hg]; exact (below_size (by repeat (first | (with_reducible first | exact HB.out | apply below_alloc | apply pw_below_drewN | apply below_drew1) | exact HB.out))) : w.heap.size ≤ gb137)); have n3_ := Aside0.mk ((by rw [hg]; exact (below_size (by repeat (first | (with_reducible first | exact HB.out | apply below_alloc | apply pw_below_drewN | apply below_drew1) | exact HB.out))) : w.heap.size ≤ gb137)); clear HB; have HB := n0_; have BK137 := n1_; have GW137 := n2_; have GE137 := n3_; clear n0_ n1_ n2_ n3_; clear hb hbox hg; have hcz4_0 : w3.cell? ⟨gb137, 0, none⟩ = some (.int .u8 a0_0) := (blk_cell BK137.out 0).trans rfl; have hcz4_1 : w3.cell? ⟨gb137, 1, none⟩ = some (.int .u8 a0_1) := (blk_cell BK137.out 1).trans rfl; have hcz4_2 : w3.cell? ⟨gb137, 2, none⟩ = some (.int .u8 a0_2) := (blk_cell BK137.out 2).trans rfl; have hcz4_3 : w3.cell? ⟨gb137, 3, none⟩ = some (.int .u8 a0_3) := (blk_cell BK137.out 3).trans rfl; have hcz4_4 : w3.cell? ⟨gb137, 4, none⟩ = some (.int .u8 a0_4) := (blk_cell BK137.out 4).trans rfl; have hcz4_5 : w3.cell? ⟨gb137, 5, none⟩ = some (.int .u8 a0_5) := (blk_cell BK137.out 5).trans rfl; have hfz4_0 := blk_frozen BK137.out 0; have hfz4_1 := blk_frozen BK137.out 1; have hfz4_2 := blk_frozen BK137.out 2; have hfz4_3 := blk_frozen BK137.out 3; have hfz4_4 := blk_frozen BK137.out 4; have hfz4_5 := blk_frozen BK137.out 5))
    go_ret
    exact ⟨by first | rfl | (simp [errW_none, errW_some] <;> rfl) | (simp [*, errW_none, errW_some] <;> rfl), by repeat (first | (with_reducible first | exact HB.out | apply below_alloc | apply pw_below_drewN | apply below_drew1 | refine below_set ?_ GE137.out) | exact HB.out)⟩
  · rw [if_neg c2] at H
    have c2b0 : (a0_5 == 0) = false := beq_eq_false_iff_ne.mpr c2
    have c2b1 : (a0_5 != 0) = true := bne_iff_ne.mpr c2
    obtain rfl := Option.some.inj H
    go_enter Try.func22, Try.ntmps22
    go_wp2_with (first | ((with_reducible refine gate_dst (N := 1) rfl ?_); refine box_event ?hg (N := 1) ?hd (cs := #[.int .u8 a0_0, .int .u8 a0_1, .int .u8 a0_2, .int .u8 a0_3, .int .u8 a0_4, .int .u8 a0_5]) (t := 32) ?hr ?_; (case hd => rfl); (case hg => rfl); (case hr => first | (go_simp; done) | (go_simp; rfl)); intro gb137 hg w5 hbox hb; have n0_ := Aside0.mk (below_step (by repeat (first | (with_reducible first | exact HB.out | apply below_alloc | apply pw_below_drewN | apply below_drew1) | exact HB.out)) hb); have n1_ := Aside0.mk (hbox); have n2_ := Aside0.mk ((by rw [hg]; exact (below_size (by repeat (first | (with_reducible first | exact HB.out | apply below_alloc | apply pw_below_drewN | apply below_drew1) | exact HB.out))) : w.heap.size ≤ gb137)); have n3_ := Aside0.mk ((by rw [hg]; exact (below_size (by repeat (first | (with_reducible first | exact HB.out | apply below_alloc | apply pw_below_drewN | apply below_drew1) | exact HB.out))) : w.heap.size ≤ gb137)); clear HB; have HB := n0_; have BK137 := n1_; have GW137 := n2_; have GE137 := n3_; clear n0_ n1_ n2_ n3_; clear hb hbox hg; have hcz6_0 : w5.cell? ⟨gb137, 0, none⟩ = some (.int .u8 a0_0) := (blk_cell BK137.out 0).trans rfl; have hcz6_1 : w5.cell? ⟨gb137, 1, none⟩ = some (.int .u8 a0_1) := (blk_cell BK137.out 1).trans rfl; have hcz6_2 : w5.cell? ⟨gb137, 2, none⟩ = some (.int .u8 a0_2) := (blk_cell BK137.out 2).trans rfl; have hcz6_3 : w5.cell? ⟨gb137, 3, none⟩ = some (.int .u8 a0_3) := (blk_cell BK137.out 3).trans rfl; have hcz6_4 : w5.cell? ⟨gb137, 4, none⟩ = some (.int .u8 a0_4) := (blk_cell BK137.out 4).trans rfl; have hcz6_5 : w5.cell? ⟨gb137, 5, none⟩ = some (.int .u8 a0_5) := (blk_cell BK137.out 5).trans rfl; have hfz6_0 := blk_frozen BK137.out 0; have hfz6_1 := blk_frozen BK137.out 1; have hfz6_2 := blk_frozen BK137.out 2; have hfz6_3 := blk_frozen BK137.out 3; have hfz6_4 := blk_frozen BK137.out 4; have hfz6_5 := blk_frozen BK137.out 5))
    go_ret
    exact ⟨by first | rfl | (simp [errW_none, errW_some] <;> rfl) | (simp [*, errW_none, errW_some] <;> rfl), by repeat (first | (with_reducible first | exact HB.out | apply below_alloc | apply pw_below_drewN | apply below_drew1 | refine below_set ?_ GE137.out) | exact HB.out)⟩

/-! ### marqueeref05_Choice_Now: function 23 -/
def marqueeref05_Choice_Now.f (a0_0 : Int) (a0_1 : Int) (a0_2 : Int) (a0_3 : Int) (a0_4 : Int) (a0_5 : Int) : Option (Int) := if a0_5 > 0 then (some a0_5) else (some a0_4)
set_option maxHeartbeats 8000000 in
set_option maxRecDepth 100000 in
theorem marqueeref05_Choice_Now.calls (a0_0 : Int) (a0_1 : Int) (a0_2 : Int) (a0_3 : Int) (a0_4 : Int) (a0_5 : Int) (r : Int) (w : World) (h : marqueeref05_Choice_Now.f a0_0 a0_1 a0_2 a0_3 a0_4 a0_5 = some r) :
    Calls Try.prog 23 #[.agg #[.int .i64 a0_0, .int .i64 a0_1, .int .i64 a0_2, .int .i64 a0_3, .int .i64 a0_4, .int .i64 a0_5]] w fun e w' => e = .returned (.int .i64 r) ∧ Below w.heap.size w w' := by
  have hu39 := Try.underlying39
  have HB := Aside0.mk (Below.refl w.heap.size w)
  have H : (if a0_5 > 0 then (some a0_5) else (some a0_4)) = some r := h
  clear h
  by_cases c2 : a0_5 > 0
  · rw [if_pos c2] at H
    have c2b0 : decide (0 < a0_5) = true := decide_eq_true c2
    clear c2
    obtain rfl := Option.some.inj H
    go_enter Try.func23, Try.ntmps23
    go_wp2_with (first | ((with_reducible refine gate_dst (N := 1) rfl ?_); refine box_event ?hg (N := 1) ?hd (cs := #[.int .i64 a0_0, .int .i64 a0_1, .int .i64 a0_2, .int .i64 a0_3, .int .i64 a0_4, .int .i64 a0_5]) (t := 39) ?hr ?_; (case hd => rfl); (case hg => rfl); (case hr => first | (go_simp; done) | (go_simp; rfl)); intro gb138 hg w3 hbox hb; have n0_ := Aside0.mk (below_step (by repeat (first | (with_reducible first | exact HB.out | apply below_alloc | apply pw_below_drewN | apply below_drew1) | exact HB.out)) hb); have n1_ := Aside0.mk (hbox); have n2_ := Aside0.mk ((by rw [hg]; exact (below_size (by repeat (first | (with_reducible first | exact HB.out | apply below_alloc | apply pw_below_drewN | apply below_drew1) | exact HB.out))) : w.heap.size ≤ gb138)); have n3_ := Aside0.mk ((by rw [hg]; exact (below_size (by repeat (first | (with_reducible first | exact HB.out | apply below_alloc | apply pw_below_drewN | apply below_drew1) | exact HB.out))) : w.heap.size ≤ gb138)); clear HB; have HB := n0_; have BK138 := n1_; have GW138 := n2_; have GE138 := n3_; clear n0_ n1_ n2_ n3_; clear hb hbox hg; have hcz4_0 : w3.cell? ⟨gb138, 0, none⟩ = some (.int .i64 a0_0) := (blk_cell BK138.out 0).trans rfl; have hcz4_1 : w3.cell? ⟨gb138, 1, none⟩ = some (.int .i64 a0_1) := (blk_cell BK138.out 1).trans rfl; have hcz4_2 : w3.cell? ⟨gb138, 2, none⟩ = some (.int .i64 a0_2) := (blk_cell BK138.out 2).trans rfl; have hcz4_3 : w3.cell? ⟨gb138, 3, none⟩ = some (.int .i64 a0_3) := (blk_cell BK138.out 3).trans rfl; have hcz4_4 : w3.cell? ⟨gb138, 4, none⟩ = some (.int .i64 a0_4) := (blk_cell BK138.out 4).trans rfl; have hcz4_5 : w3.cell? ⟨gb138, 5, none⟩ = some (.int .i64 a0_5) := (blk_cell BK138.out 5).trans rfl; have hfz4_0 := blk_frozen BK138.out 0; have hfz4_1 := blk_frozen BK138.out 1; have hfz4_2 := blk_frozen BK138.out 2; have hfz4_3 := blk_frozen BK138.out 3; have hfz4_4 := blk_frozen BK138.out 4; have hfz4_5 := blk_frozen BK138.out 5))
    go_ret
    exact ⟨by first | rfl | (simp [errW_none, errW_some] <;> rfl) | (simp [*, errW_none, errW_some] <;> rfl), by repeat (first | (with_reducible first | exact HB.out | apply below_alloc | apply pw_below_drewN | apply below_drew1 | refine below_set ?_ GE138.out) | exact HB.out)⟩
  · rw [if_neg c2] at H
    have c2b0 : decide (0 < a0_5) = false := decide_eq_false c2
    clear c2
    obtain rfl := Option.some.inj H
    go_enter Try.func23, Try.ntmps23
    go_wp2_with (first | ((with_reducible refine gate_dst (N := 1) rfl ?_); refine box_event ?hg (N := 1) ?hd (cs := #[.int .i64 a0_0, .int .i64 a0_1, .int .i64 a0_2, .int .i64 a0_3, .int .i64 a0_4, .int .i64 a0_5]) (t := 39) ?hr ?_; (case hd => rfl); (case hg => rfl); (case hr => first | (go_simp; done) | (go_simp; rfl)); intro gb138 hg w5 hbox hb; have n0_ := Aside0.mk (below_step (by repeat (first | (with_reducible first | exact HB.out | apply below_alloc | apply pw_below_drewN | apply below_drew1) | exact HB.out)) hb); have n1_ := Aside0.mk (hbox); have n2_ := Aside0.mk ((by rw [hg]; exact (below_size (by repeat (first | (with_reducible first | exact HB.out | apply below_alloc | apply pw_below_drewN | apply below_drew1) | exact HB.out))) : w.heap.size ≤ gb138)); have n3_ := Aside0.mk ((by rw [hg]; exact (below_size (by repeat (first | (with_reducible first | exact HB.out | apply below_alloc | apply pw_below_drewN | apply below_drew1) | exact HB.out))) : w.heap.size ≤ gb138)); clear HB; have HB := n0_; have BK138 := n1_; have GW138 := n2_; have GE138 := n3_; clear n0_ n1_ n2_ n3_; clear hb hbox hg; have hcz6_0 : w5.cell? ⟨gb138, 0, none⟩ = some (.int .i64 a0_0) := (blk_cell BK138.out 0).trans rfl; have hcz6_1 : w5.cell? ⟨gb138, 1, none⟩ = some (.int .i64 a0_1) := (blk_cell BK138.out 1).trans rfl; have hcz6_2 : w5.cell? ⟨gb138, 2, none⟩ = some (.int .i64 a0_2) := (blk_cell BK138.out 2).trans rfl; have hcz6_3 : w5.cell? ⟨gb138, 3, none⟩ = some (.int .i64 a0_3) := (blk_cell BK138.out 3).trans rfl; have hcz6_4 : w5.cell? ⟨gb138, 4, none⟩ = some (.int .i64 a0_4) := (blk_cell BK138.out 4).trans rfl; have hcz6_5 : w5.cell? ⟨gb138, 5, none⟩ = some (.int .i64 a0_5) := (blk_cell BK138.out 5).trans rfl; have hfz6_0 := blk_frozen BK138.out 0; have hfz6_1 := blk_frozen BK138.out 1; have hfz6_2 := blk_frozen BK138.out 2; have hfz6_3 := blk_frozen BK138.out 3; have hfz6_4 := blk_frozen BK138.out 4; have hfz6_5 := blk_frozen BK138.out 5))
    go_ret
    exact ⟨by first | rfl | (simp [errW_none, errW_some] <;> rfl) | (simp [*, errW_none, errW_some] <;> rfl), by repeat (first | (with_reducible first | exact HB.out | apply below_alloc | apply pw_below_drewN | apply below_drew1 | refine below_set ?_ GE138.out) | exact HB.out)⟩

/-! ### charset_Choice_Map: function 13 -/
-- (a text of this session's own)
def charset_Choice_Map.f (k : Nat) (a0_0 : Int) (a0_1 : Int) (a0_2 : Int) (a0_3 : Int) (a0_4 : Int) (a0_5 : Int) (a1 : Int) : Option (Int × Int × Int × Int × Int × Int × Int) :=
  (charset_Choice_Now.f a0_0 a0_1 a0_2 a0_3 a0_4 a0_5).bind fun n => if n = 0 then (charset_Of.f k (wrap64 a0_0) a1).bind fun x => some (a0_0, a0_1, a0_2, a0_3, a0_4, 0, x) else if n = 1 then (charset_Of.f k (wrap64 a0_1) a1).bind fun x => some (a0_0, a0_1, a0_2, a0_3, a0_4, 0, x) else if n = 2 then (charset_Of.f k (wrap64 a0_2) a1).bind fun x => some (a0_0, a0_1, a0_2, a0_3, a0_4, 0, x) else if n = 3 then (charset_Of.f k (wrap64 a0_3) a1).bind fun x => some (a0_0, a0_1, a0_2, a0_3, a0_4, 0, x) else none
theorem charset_Choice_Map.mono : ∀ a0 a1 a2 a3 a4 a5 a6 k, LeO (charset_Choice_Map.f k a0 a1 a2 a3 a4 a5 a6) (charset_Choice_Map.f (k + 1) a0 a1 a2 a3 a4 a5 a6) := by
  intro a0 a1 a2 a3 a4 a5 a6 k
  unfold charset_Choice_Map.f
  repeat' first
      | (with_reducible exact charset_Of.mono _ _ _)
      | (with_reducible exact LeO.refl _)
      | (with_reducible exact LeO.none _)
      | (with_reducible refine LeO.ite ?_ ?_)
      | (with_reducible refine LeO.bind ?_ (fun _ => ?_))
set_option maxHeartbeats 4000000 in
theorem charset_Choice_Map.calls (k : Nat) (a0_0 : Int) (a0_1 : Int) (a0_2 : Int) (a0_3 : Int) (a0_4 : Int) (a0_5 : Int) (a1 : Int) (r1 : Int) (r2 : Int) (r3 : Int) (r4 : Int) (r5 : Int) (r6 : Int) (r7 : Int) (w : World) (h : charset_Choice_Map.f k a0_0 a0_1 a0_2 a0_3 a0_4 a0_5 a1 = some (r1, r2, r3, r4, r5, r6, r7)) :
    Calls Try.prog 13 #[.agg #[.int .u8 a0_0, .int .u8 a0_1, .int .u8 a0_2, .int .u8 a0_3, .int .u8 a0_4, .int .u8 a0_5], .int .i32 a1] w fun e w' => e = .returned (.tuple #[.agg #[.int .u8 r1, .int .u8 r2, .int .u8 r3, .int .u8 r4, .int .u8 r5, .int .u8 r6], .int .i32 r7]) ∧ Below w.heap.size w w' := by
  unfold charset_Choice_Map.f at h
  obtain ⟨n, hn, h⟩ := Option.bind_eq_some_iff.mp h
  have HN := Aside0.mk hn
  clear hn
  by_cases c0 : n = 0
  · subst c0
    simp only [if_true] at h
    obtain ⟨x, hx, h⟩ := Option.bind_eq_some_iff.mp h
    simp only [Option.some.injEq, Prod.mk.injEq] at h
    obtain ⟨rfl, rfl, rfl, rfl, rfl, rfl, rfl⟩ := h
    have HX := Aside0.mk hx
    clear hx
    go_enter Try.func13, Try.ntmps13
    go_wp2_with fail
    refine (charset_Choice_Now.calls _ _ _ _ _ _ _ _ HN.out).mono ?_
    rintro e w1 ⟨rfl, hd⟩
    have HD := Aside0.mk (Arr.below_two hd)
    have B0 := Aside0.mk (Arr.two_blk0 hd)
    have B1 := Aside0.mk (Arr.two_blk1 hd)
    clear hd
    have e00 : w1.cell? ⟨w.heap.size, 0, none⟩ = some (.int .u8 a0_0) := (blk_cell B0.out 0).trans rfl
    have e10 : w1.cell? ⟨w.heap.size + 1, 0, none⟩ = some (.int .u8 0) := (blk_cell B1.out 0).trans rfl
    have f00 := blk_frozen B0.out 0
    have f10 := blk_frozen B1.out 0
    have e01 : w1.cell? ⟨w.heap.size, 1, none⟩ = some (.int .u8 a0_1) := (blk_cell B0.out 1).trans rfl
    have e11 : w1.cell? ⟨w.heap.size + 1, 1, none⟩ = some (.int .u8 0) := (blk_cell B1.out 1).trans rfl
    have f01 := blk_frozen B0.out 1
    have f11 := blk_frozen B1.out 1
    have e02 : w1.cell? ⟨w.heap.size, 2, none⟩ = some (.int .u8 a0_2) := (blk_cell B0.out 2).trans rfl
    have e12 : w1.cell? ⟨w.heap.size + 1, 2, none⟩ = some (.int .u8 0) := (blk_cell B1.out 2).trans rfl
    have f02 := blk_frozen B0.out 2
    have f12 := blk_frozen B1.out 2
    have e03 : w1.cell? ⟨w.heap.size, 3, none⟩ = some (.int .u8 a0_3) := (blk_cell B0.out 3).trans rfl
    have e13 : w1.cell? ⟨w.heap.size + 1, 3, none⟩ = some (.int .u8 0) := (blk_cell B1.out 3).trans rfl
    have f03 := blk_frozen B0.out 3
    have f13 := blk_frozen B1.out 3
    have e04 : w1.cell? ⟨w.heap.size, 4, none⟩ = some (.int .u8 a0_4) := (blk_cell B0.out 4).trans rfl
    have e14 : w1.cell? ⟨w.heap.size + 1, 4, none⟩ = some (.int .u8 0) := (blk_cell B1.out 4).trans rfl
    have f04 := blk_frozen B0.out 4
    have f14 := blk_frozen B1.out 4
    have e05 : w1.cell? ⟨w.heap.size, 5, none⟩ = some (.int .u8 a0_5) := (blk_cell B0.out 5).trans rfl
    have e15 : w1.cell? ⟨w.heap.size + 1, 5, none⟩ = some (.int .u8 0) := (blk_cell B1.out 5).trans rfl
    have f05 := blk_frozen B0.out 5
    have f15 := blk_frozen B1.out 5
    go_wp2_with fail
    clear e00 e10 f00 f10 e01 e11 f01 f11 e02 e12 f02 f12 e03 e13 f03 f13 e04 e14 f04 f14 e05 e15 f05 f15
    refine (charset_Of.calls k _ _ _ _ HX.out).mono ?_
    rintro e w2 ⟨rfl, hd⟩
    have HD2 := Aside0.mk (HD.out.trans (hd.mono HD.out.size))
    have C0 := Aside0.mk ((hd.block _ (blk_lt B0.out)).trans B0.out)
    have C1 := Aside0.mk ((hd.block _ (blk_lt B1.out)).trans B1.out)
    clear hd HD B0 B1
    have e00 : w2.cell? ⟨w.heap.size, 0, none⟩ = some (.int .u8 a0_0) := (blk_cell C0.out 0).trans rfl
    have e10 : w2.cell? ⟨w.heap.size + 1, 0, none⟩ = some (.int .u8 0) := (blk_cell C1.out 0).trans rfl
    have f00 := blk_frozen C0.out 0
    have f10 := blk_frozen C1.out 0
    have e01 : w2.cell? ⟨w.heap.size, 1, none⟩ = some (.int .u8 a0_1) := (blk_cell C0.out 1).trans rfl
    have e11 : w2.cell? ⟨w.heap.size + 1, 1, none⟩ = some (.int .u8 0) := (blk_cell C1.out 1).trans rfl
    have f01 := blk_frozen C0.out 1
    have f11 := blk_frozen C1.out 1
    have e02 : w2.cell? ⟨w.heap.size, 2, none⟩ = some (.int .u8 a0_2) := (blk_cell C0.out 2).trans rfl
    have e12 : w2.cell? ⟨w.heap.size + 1, 2, none⟩ = some (.int .u8 0) := (blk_cell C1.out 2).trans rfl
    have f02 := blk_frozen C0.out 2
    have f12 := blk_frozen C1.out 2
    have e03 : w2.cell? ⟨w.heap.size, 3, none⟩ = some (.int .u8 a0_3) := (blk_cell C0.out 3).trans rfl
    have e13 : w2.cell? ⟨w.heap.size + 1, 3, none⟩ = some (.int .u8 0) := (blk_cell C1.out 3).trans rfl
    have f03 := blk_frozen C0.out 3
    have f13 := blk_frozen C1.out 3
    have e04 : w2.cell? ⟨w.heap.size, 4, none⟩ = some (.int .u8 a0_4) := (blk_cell C0.out 4).trans rfl
    have e14 : w2.cell? ⟨w.heap.size + 1, 4, none⟩ = some (.int .u8 0) := (blk_cell C1.out 4).trans rfl
    have f04 := blk_frozen C0.out 4
    have f14 := blk_frozen C1.out 4
    have e05 : w2.cell? ⟨w.heap.size, 5, none⟩ = some (.int .u8 a0_5) := (blk_cell C0.out 5).trans rfl
    have e15 : w2.cell? ⟨w.heap.size + 1, 5, none⟩ = some (.int .u8 0) := (blk_cell C1.out 5).trans rfl
    have f05 := blk_frozen C0.out 5
    have f15 := blk_frozen C1.out 5
    clear C0 C1
    go_wp2
    refine bodyPost_ret (v := .tuple #[.agg #[.int .u8 a0_0, .int .u8 a0_1, .int .u8 a0_2, .int .u8 a0_3, .int .u8 a0_4, .int .u8 0], .int .i32 x]) (by simp [results, Try.results13, go_sem, e00, e10, e01, e11, e02, e12, e03, e13, e04, e14, e05, e15]) rfl ⟨rfl, ?_⟩
    (repeat (first | (with_reducible exact HD2.out) | (with_reducible refine Arr.bset0 ?_) | (with_reducible refine Arr.bset1 ?_)))
  · rw [if_neg c0] at h
    by_cases c1 : n = 1
    · subst c1
      simp only [if_true, if_neg (show ¬ (1 : Int) = 0 by decide)] at h
      obtain ⟨x, hx, h⟩ := Option.bind_eq_some_iff.mp h
      simp only [Option.some.injEq, Prod.mk.injEq] at h
      obtain ⟨rfl, rfl, rfl, rfl, rfl, rfl, rfl⟩ := h
      have HX := Aside0.mk hx
      clear hx
      go_enter Try.func13, Try.ntmps13
      go_wp2_with fail
      refine (charset_Choice_Now.calls _ _ _ _ _ _ _ _ HN.out).mono ?_
      rintro e w1 ⟨rfl, hd⟩
      have HD := Aside0.mk (Arr.below_two hd)
      have B0 := Aside0.mk (Arr.two_blk0 hd)
      have B1 := Aside0.mk (Arr.two_blk1 hd)
      clear hd
      have e00 : w1.cell? ⟨w.heap.size, 0, none⟩ = some (.int .u8 a0_0) := (blk_cell B0.out 0).trans rfl
      have e10 : w1.cell? ⟨w.heap.size + 1, 0, none⟩ = some (.int .u8 0) := (blk_cell B1.out 0).trans rfl
      have f00 := blk_frozen B0.out 0
      have f10 := blk_frozen B1.out 0
      have e01 : w1.cell? ⟨w.heap.size, 1, none⟩ = some (.int .u8 a0_1) := (blk_cell B0.out 1).trans rfl
      have e11 : w1.cell? ⟨w.heap.size + 1, 1, none⟩ = some (.int .u8 0) := (blk_cell B1.out 1).trans rfl
      have f01 := blk_frozen B0.out 1
      have f11 := blk_frozen B1.out 1
      have e02 : w1.cell? ⟨w.heap.size, 2, none⟩ = some (.int .u8 a0_2) := (blk_cell B0.out 2).trans rfl
      have e12 : w1.cell? ⟨w.heap.size + 1, 2, none⟩ = some (.int .u8 0) := (blk_cell B1.out 2).trans rfl
      have f02 := blk_frozen B0.out 2
      have f12 := blk_frozen B1.out 2
      have e03 : w1.cell? ⟨w.heap.size, 3, none⟩ = some (.int .u8 a0_3) := (blk_cell B0.out 3).trans rfl
      have e13 : w1.cell? ⟨w.heap.size + 1, 3, none⟩ = some (.int .u8 0) := (blk_cell B1.out 3).trans rfl
      have f03 := blk_frozen B0.out 3
      have f13 := blk_frozen B1.out 3
      have e04 : w1.cell? ⟨w.heap.size, 4, none⟩ = some (.int .u8 a0_4) := (blk_cell B0.out 4).trans rfl
      have e14 : w1.cell? ⟨w.heap.size + 1, 4, none⟩ = some (.int .u8 0) := (blk_cell B1.out 4).trans rfl
      have f04 := blk_frozen B0.out 4
      have f14 := blk_frozen B1.out 4
      have e05 : w1.cell? ⟨w.heap.size, 5, none⟩ = some (.int .u8 a0_5) := (blk_cell B0.out 5).trans rfl
      have e15 : w1.cell? ⟨w.heap.size + 1, 5, none⟩ = some (.int .u8 0) := (blk_cell B1.out 5).trans rfl
      have f05 := blk_frozen B0.out 5
      have f15 := blk_frozen B1.out 5
      go_wp2_with fail
      clear e00 e10 f00 f10 e01 e11 f01 f11 e02 e12 f02 f12 e03 e13 f03 f13 e04 e14 f04 f14 e05 e15 f05 f15
      refine (charset_Of.calls k _ _ _ _ HX.out).mono ?_
      rintro e w2 ⟨rfl, hd⟩
      have HD2 := Aside0.mk (HD.out.trans (hd.mono HD.out.size))
      have C0 := Aside0.mk ((hd.block _ (blk_lt B0.out)).trans B0.out)
      have C1 := Aside0.mk ((hd.block _ (blk_lt B1.out)).trans B1.out)
      clear hd HD B0 B1
      have e00 : w2.cell? ⟨w.heap.size, 0, none⟩ = some (.int .u8 a0_0) := (blk_cell C0.out 0).trans rfl
      have e10 : w2.cell? ⟨w.heap.size + 1, 0, none⟩ = some (.int .u8 0) := (blk_cell C1.out 0).trans rfl
      have f00 := blk_frozen C0.out 0
      have f10 := blk_frozen C1.out 0
      have e01 : w2.cell? ⟨w.heap.size, 1, none⟩ = some (.int .u8 a0_1) := (blk_cell C0.out 1).trans rfl
      have e11 : w2.cell? ⟨w.heap.size + 1, 1, none⟩ = some (.int .u8 0) := (blk_cell C1.out 1).trans rfl
      have f01 := blk_frozen C0.out 1
      have f11 := blk_frozen C1.out 1
      have e02 : w2.cell? ⟨w.heap.size, 2, none⟩ = some (.int .u8 a0_2) := (blk_cell C0.out 2).trans rfl
      have e12 : w2.cell? ⟨w.heap.size + 1, 2, none⟩ = some (.int .u8 0) := (blk_cell C1.out 2).trans rfl
      have f02 := blk_frozen C0.out 2
      have f12 := blk_frozen C1.out 2
      have e03 : w2.cell? ⟨w.heap.size, 3, none⟩ = some (.int .u8 a0_3) := (blk_cell C0.out 3).trans rfl
      have e13 : w2.cell? ⟨w.heap.size + 1, 3, none⟩ = some (.int .u8 0) := (blk_cell C1.out 3).trans rfl
      have f03 := blk_frozen C0.out 3
      have f13 := blk_frozen C1.out 3
      have e04 : w2.cell? ⟨w.heap.size, 4, none⟩ = some (.int .u8 a0_4) := (blk_cell C0.out 4).trans rfl
      have e14 : w2.cell? ⟨w.heap.size + 1, 4, none⟩ = some (.int .u8 0) := (blk_cell C1.out 4).trans rfl
      have f04 := blk_frozen C0.out 4
      have f14 := blk_frozen C1.out 4
      have e05 : w2.cell? ⟨w.heap.size, 5, none⟩ = some (.int .u8 a0_5) := (blk_cell C0.out 5).trans rfl
      have e15 : w2.cell? ⟨w.heap.size + 1, 5, none⟩ = some (.int .u8 0) := (blk_cell C1.out 5).trans rfl
      have f05 := blk_frozen C0.out 5
      have f15 := blk_frozen C1.out 5
      clear C0 C1
      go_wp2
      refine bodyPost_ret (v := .tuple #[.agg #[.int .u8 a0_0, .int .u8 a0_1, .int .u8 a0_2, .int .u8 a0_3, .int .u8 a0_4, .int .u8 0], .int .i32 x]) (by simp [results, Try.results13, go_sem, e00, e10, e01, e11, e02, e12, e03, e13, e04, e14, e05, e15]) rfl ⟨rfl, ?_⟩
      (repeat (first | (with_reducible exact HD2.out) | (with_reducible refine Arr.bset0 ?_) | (with_reducible refine Arr.bset1 ?_)))
    · rw [if_neg c1] at h
      by_cases c2 : n = 2
      · subst c2
        simp only [if_true, if_neg (show ¬ (2 : Int) = 0 by decide), if_neg (show ¬ (2 : Int) = 1 by decide)] at h
        obtain ⟨x, hx, h⟩ := Option.bind_eq_some_iff.mp h
        simp only [Option.some.injEq, Prod.mk.injEq] at h
        obtain ⟨rfl, rfl, rfl, rfl, rfl, rfl, rfl⟩ := h
        have HX := Aside0.mk hx
        clear hx
        go_enter Try.func13, Try.ntmps13
        go_wp2_with fail
        refine (charset_Choice_Now.calls _ _ _ _ _ _ _ _ HN.out).mono ?_
        rintro e w1 ⟨rfl, hd⟩
        have HD := Aside0.mk (Arr.below_two hd)
        have B0 := Aside0.mk (Arr.two_blk0 hd)
        have B1 := Aside0.mk (Arr.two_blk1 hd)
        clear hd
        have e00 : w1.cell? ⟨w.heap.size, 0, none⟩ = some (.int .u8 a0_0) := (blk_cell B0.out 0).trans rfl
        have e10 : w1.cell? ⟨w.heap.size + 1, 0, none⟩ = some (.int .u8 0) := (blk_cell B1.out 0).trans rfl
        have f00 := blk_frozen B0.out 0
        have f10 := blk_frozen B1.out 0
        have e01 : w1.cell? ⟨w.heap.size, 1, none⟩ = some (.int .u8 a0_1) := (blk_cell B0.out 1).trans rfl
        have e11 : w1.cell? ⟨w.heap.size + 1, 1, none⟩ = some (.int .u8 0) := (blk_cell B1.out 1).trans rfl
        have f01 := blk_frozen B0.out 1
        have f11 := blk_frozen B1.out 1
        have e02 : w1.cell? ⟨w.heap.size, 2, none⟩ = some (.int .u8 a0_2) := (blk_cell B0.out 2).trans rfl
        have e12 : w1.cell? ⟨w.heap.size + 1, 2, none⟩ = some (.int .u8 0) := (blk_cell B1.out 2).trans rfl
        have f02 := blk_frozen B0.out 2
        have f12 := blk_frozen B1.out 2
        have e03 : w1.cell? ⟨w.heap.size, 3, none⟩ = some (.int .u8 a0_3) := (blk_cell B0.out 3).trans rfl
        have e13 : w1.cell? ⟨w.heap.size + 1, 3, none⟩ = some (.int .u8 0) := (blk_cell B1.out 3).trans rfl
        have f03 := blk_frozen B0.out 3
        have f13 := blk_frozen B1.out 3
        have e04 : w1.cell? ⟨w.heap.size, 4, none⟩ = some (.int .u8 a0_4) := (blk_cell B0.out 4).trans rfl
        have e14 : w1.cell? ⟨w.heap.size + 1, 4, none⟩ = some (.int .u8 0) := (blk_cell B1.out 4).trans rfl
        have f04 := blk_frozen B0.out 4
        have f14 := blk_frozen B1.out 4
        have e05 : w1.cell? ⟨w.heap.size, 5, none⟩ = some (.int .u8 a0_5) := (blk_cell B0.out 5).trans rfl
        have e15 : w1.cell? ⟨w.heap.size + 1, 5, none⟩ = some (.int .u8 0) := (blk_cell B1.out 5).trans rfl
        have f05 := blk_frozen B0.out 5
        have f15 := blk_frozen B1.out 5
        go_wp2_with fail
        clear e00 e10 f00 f10 e01 e11 f01 f11 e02 e12 f02 f12 e03 e13 f03 f13 e04 e14 f04 f14 e05 e15 f05 f15
        refine (charset_Of.calls k _ _ _ _ HX.out).mono ?_
        rintro e w2 ⟨rfl, hd⟩
        have HD2 := Aside0.mk (HD.out.trans (hd.mono HD.out.size))
        have C0 := Aside0.mk ((hd.block _ (blk_lt B0.out)).trans B0.out)
        have C1 := Aside0.mk ((hd.block _ (blk_lt B1.out)).trans B1.out)
        clear hd HD B0 B1
        have e00 : w2.cell? ⟨w.heap.size, 0, none⟩ = some (.int .u8 a0_0) := (blk_cell C0.out 0).trans rfl
        have e10 : w2.cell? ⟨w.heap.size + 1, 0, none⟩ = some (.int .u8 0) := (blk_cell C1.out 0).trans rfl
        have f00 := blk_frozen C0.out 0
        have f10 := blk_frozen C1.out 0
        have e01 : w2.cell? ⟨w.heap.size, 1, none⟩ = some (.int .u8 a0_1) := (blk_cell C0.out 1).trans rfl
        have e11 : w2.cell? ⟨w.heap.size + 1, 1, none⟩ = some (.int .u8 0) := (blk_cell C1.out 1).trans rfl
        have f01 := blk_frozen C0.out 1
        have f11 := blk_frozen C1.out 1
        have e02 : w2.cell? ⟨w.heap.size, 2, none⟩ = some (.int .u8 a0_2) := (blk_cell C0.out 2).trans rfl
        have e12 : w2.cell? ⟨w.heap.size + 1, 2, none⟩ = some (.int .u8 0) := (blk_cell C1.out 2).trans rfl
        have f02 := blk_frozen C0.out 2
        have f12 := blk_frozen C1.out 2
        have e03 : w2.cell? ⟨w.heap.size, 3, none⟩ = some (.int .u8 a0_3) := (blk_cell C0.out 3).trans rfl
        have e13 : w2.cell? ⟨w.heap.size + 1, 3, none⟩ = some (.int .u8 0) := (blk_cell C1.out 3).trans rfl
        have f03 := blk_frozen C0.out 3
        have f13 := blk_frozen C1.out 3
        have e04 : w2.cell? ⟨w.heap.size, 4, none⟩ = some (.int .u8 a0_4) := (blk_cell C0.out 4).trans rfl
        have e14 : w2.cell? ⟨w.heap.size + 1, 4, none⟩ = some (.int .u8 0) := (blk_cell C1.out 4).trans rfl
        have f04 := blk_frozen C0.out 4
        have f14 := blk_frozen C1.out 4
        have e05 : w2.cell? ⟨w.heap.size, 5, none⟩ = some (.int .u8 a0_5) := (blk_cell C0.out 5).trans rfl
        have e15 : w2.cell? ⟨w.heap.size + 1, 5, none⟩ = some (.int .u8 0) := (blk_cell C1.out 5).trans rfl
        have f05 := blk_frozen C0.out 5
        have f15 := blk_frozen C1.out 5
        clear C0 C1
        go_wp2
        refine bodyPost_ret (v := .tuple #[.agg #[.int .u8 a0_0, .int .u8 a0_1, .int .u8 a0_2, .int .u8 a0_3, .int .u8 a0_4, .int .u8 0], .int .i32 x]) (by simp [results, Try.results13, go_sem, e00, e10, e01, e11, e02, e12, e03, e13, e04, e14, e05, e15]) rfl ⟨rfl, ?_⟩
        (repeat (first | (with_reducible exact HD2.out) | (with_reducible refine Arr.bset0 ?_) | (with_reducible refine Arr.bset1 ?_)))
      · rw [if_neg c2] at h
        by_cases c3 : n = 3
        · subst c3
          simp only [if_true, if_neg (show ¬ (3 : Int) = 0 by decide), if_neg (show ¬ (3 : Int) = 1 by decide), if_neg (show ¬ (3 : Int) = 2 by decide)] at h
          obtain ⟨x, hx, h⟩ := Option.bind_eq_some_iff.mp h
          simp only [Option.some.injEq, Prod.mk.injEq] at h
          obtain ⟨rfl, rfl, rfl, rfl, rfl, rfl, rfl⟩ := h
          have HX := Aside0.mk hx
          clear hx
          go_enter Try.func13, Try.ntmps13
          go_wp2_with fail
          refine (charset_Choice_Now.calls _ _ _ _ _ _ _ _ HN.out).mono ?_
          rintro e w1 ⟨rfl, hd⟩
          have HD := Aside0.mk (Arr.below_two hd)
          have B0 := Aside0.mk (Arr.two_blk0 hd)
          have B1 := Aside0.mk (Arr.two_blk1 hd)
          clear hd
          have e00 : w1.cell? ⟨w.heap.size, 0, none⟩ = some (.int .u8 a0_0) := (blk_cell B0.out 0).trans rfl
          have e10 : w1.cell? ⟨w.heap.size + 1, 0, none⟩ = some (.int .u8 0) := (blk_cell B1.out 0).trans rfl
          have f00 := blk_frozen B0.out 0
          have f10 := blk_frozen B1.out 0
          have e01 : w1.cell? ⟨w.heap.size, 1, none⟩ = some (.int .u8 a0_1) := (blk_cell B0.out 1).trans rfl
          have e11 : w1.cell? ⟨w.heap.size + 1, 1, none⟩ = some (.int .u8 0) := (blk_cell B1.out 1).trans rfl
          have f01 := blk_frozen B0.out 1
          have f11 := blk_frozen B1.out 1
          have e02 : w1.cell? ⟨w.heap.size, 2, none⟩ = some (.int .u8 a0_2) := (blk_cell B0.out 2).trans rfl
          have e12 : w1.cell? ⟨w.heap.size + 1, 2, none⟩ = some (.int .u8 0) := (blk_cell B1.out 2).trans rfl
          have f02 := blk_frozen B0.out 2
          have f12 := blk_frozen B1.out 2
          have e03 : w1.cell? ⟨w.heap.size, 3, none⟩ = some (.int .u8 a0_3) := (blk_cell B0.out 3).trans rfl
          have e13 : w1.cell? ⟨w.heap.size + 1, 3, none⟩ = some (.int .u8 0) := (blk_cell B1.out 3).trans rfl
          have f03 := blk_frozen B0.out 3
          have f13 := blk_frozen B1.out 3
          have e04 : w1.cell? ⟨w.heap.size, 4, none⟩ = some (.int .u8 a0_4) := (blk_cell B0.out 4).trans rfl
          have e14 : w1.cell? ⟨w.heap.size + 1, 4, none⟩ = some (.int .u8 0) := (blk_cell B1.out 4).trans rfl
          have f04 := blk_frozen B0.out 4
          have f14 := blk_frozen B1.out 4
          have e05 : w1.cell? ⟨w.heap.size, 5, none⟩ = some (.int .u8 a0_5) := (blk_cell B0.out 5).trans rfl
          have e15 : w1.cell? ⟨w.heap.size + 1, 5, none⟩ = some (.int .u8 0) := (blk_cell B1.out 5).trans rfl
          have f05 := blk_frozen B0.out 5
          have f15 := blk_frozen B1.out 5
          go_wp2_with fail
          clear e00 e10 f00 f10 e01 e11 f01 f11 e02 e12 f02 f12 e03 e13 f03 f13 e04 e14 f04 f14 e05 e15 f05 f15
          refine (charset_Of.calls k _ _ _ _ HX.out).mono ?_
          rintro e w2 ⟨rfl, hd⟩
          have HD2 := Aside0.mk (HD.out.trans (hd.mono HD.out.size))
          have C0 := Aside0.mk ((hd.block _ (blk_lt B0.out)).trans B0.out)
          have C1 := Aside0.mk ((hd.block _ (blk_lt B1.out)).trans B1.out)
          clear hd HD B0 B1
          have e00 : w2.cell? ⟨w.heap.size, 0, none⟩ = some (.int .u8 a0_0) := (blk_cell C0.out 0).trans rfl
          have e10 : w2.cell? ⟨w.heap.size + 1, 0, none⟩ = some (.int .u8 0) := (blk_cell C1.out 0).trans rfl
          have f00 := blk_frozen C0.out 0
          have f10 := blk_frozen C1.out 0
          have e01 : w2.cell? ⟨w.heap.size, 1, none⟩ = some (.int .u8 a0_1) := (blk_cell C0.out 1).trans rfl
          have e11 : w2.cell? ⟨w.heap.size + 1, 1, none⟩ = some (.int .u8 0) := (blk_cell C1.out 1).trans rfl
          have f01 := blk_frozen C0.out 1
          have f11 := blk_frozen C1.out 1
          have e02 : w2.cell? ⟨w.heap.size, 2, none⟩ = some (.int .u8 a0_2) := (blk_cell C0.out 2).trans rfl
          have e12 : w2.cell? ⟨w.heap.size + 1, 2, none⟩ = some (.int .u8 0) := (blk_cell C1.out 2).trans rfl
          have f02 := blk_frozen C0.out 2
          have f12 := blk_frozen C1.out 2
          have e03 : w2.cell? ⟨w.heap.size, 3, none⟩ = some (.int .u8 a0_3) := (blk_cell C0.out 3).trans rfl
          have e13 : w2.cell? ⟨w.heap.size + 1, 3, none⟩ = some (.int .u8 0) := (blk_cell C1.out 3).trans rfl
          have f03 := blk_frozen C0.out 3
          have f13 := blk_frozen C1.out 3
          have e04 : w2.cell? ⟨w.heap.size, 4, none⟩ = some (.int .u8 a0_4) := (blk_cell C0.out 4).trans rfl
          have e14 : w2.cell? ⟨w.heap.size + 1, 4, none⟩ = some (.int .u8 0) := (blk_cell C1.out 4).trans rfl
          have f04 := blk_frozen C0.out 4
          have f14 := blk_frozen C1.out 4
          have e05 : w2.cell? ⟨w.heap.size, 5, none⟩ = some (.int .u8 a0_5) := (blk_cell C0.out 5).trans rfl
          have e15 : w2.cell? ⟨w.heap.size + 1, 5, none⟩ = some (.int .u8 0) := (blk_cell C1.out 5).trans rfl
          have f05 := blk_frozen C0.out 5
          have f15 := blk_frozen C1.out 5
          clear C0 C1
          go_wp2
          refine bodyPost_ret (v := .tuple #[.agg #[.int .u8 a0_0, .int .u8 a0_1, .int .u8 a0_2, .int .u8 a0_3, .int .u8 a0_4, .int .u8 0], .int .i32 x]) (by simp [results, Try.results13, go_sem, e00, e10, e01, e11, e02, e12, e03, e13, e04, e14, e05, e15]) rfl ⟨rfl, ?_⟩
          (repeat (first | (with_reducible exact HD2.out) | (with_reducible refine Arr.bset0 ?_) | (with_reducible refine Arr.bset1 ?_)))
        · rw [if_neg c3] at h
          cases h

/-! ### charset_set: function 25 -/
-- (a text of this session's own)
def charset_set.f (a0 : Int) : Option (Int × Bool) := if a0 = 66 then some (0, true) else if a0 = 48 then some (1, true) else if a0 = 65 then some (2, true) else some (0, false)
theorem charset_set.calls (a0 : Int) (r1 : Int) (r2 : Bool) (w : World) (h : charset_set.f a0 = some (r1, r2)) :
    Calls Try.prog 25 #[.int .u8 a0] w fun e w' => e = .returned (.tuple #[.int .i64 r1, .bool r2]) ∧ Below w.heap.size w w' := by
  have i0 : ∀ w : World, (Instr.index 64 (.agg #[.int .u8 66, .int .u8 48, .int .u8 65]) (.int .i64 0)).run Try.prog w = .ok (.int .u8 66) w := fun _ => by kernel_rfl
  have i1 : ∀ w : World, (Instr.index 64 (.agg #[.int .u8 66, .int .u8 48, .int .u8 65]) (.int .i64 1)).run Try.prog w = .ok (.int .u8 48) w := fun _ => by kernel_rfl
  have i2 : ∀ w : World, (Instr.index 64 (.agg #[.int .u8 66, .int .u8 48, .int .u8 65]) (.int .i64 2)).run Try.prog w = .ok (.int .u8 65) w := fun _ => by kernel_rfl
  have H := Aside0.mk h
  clear h
  go_enter Try.func25, Try.ntmps25
  go_wp2
  go_loop [7] (fun i => ∃ k : Nat, k ≤ 3 ∧ i = .int .i64 k ∧ (0 < k → ¬ a0 = 66) ∧ (1 < k → ¬ a0 = 48) ∧ (2 < k → ¬ a0 = 65)) (fun i => 3 - (intOf i).toNat)
  case atStart => exact ⟨0, by omega, rfl, by omega, by omega, by omega⟩
  case round =>
    obtain ⟨k, hk, rfl, k0, k1, k2⟩ := hrel
    have hk4 : k = 0 ∨ k = 1 ∨ k = 2 ∨ k = 3 := by omega
    have K0 := Aside0.mk k0
    have K1 := Aside0.mk k1
    have K2 := Aside0.mk k2
    clear k0 k1 k2
    rcases hk4 with rfl | rfl | rfl | rfl
    · by_cases c : a0 = 66
      · have C := Aside0.mk c
        have cb : ((66 : Int) == a0) = true := by simp [c]
        clear c
        go_wp2
        go_ret2
        have h := H.out
        unfold charset_set.f at h
        rw [if_pos C.out] at h
        simp only [Option.some.injEq, Prod.mk.injEq] at h
        obtain ⟨rfl, rfl⟩ := h
        exact ⟨rfl, Below.refl _ _⟩
      · have C := Aside0.mk c
        have cb : ((66 : Int) == a0) = false := by simp; omega
        clear c
        go_wp2
        go_round
        case rel => exact ⟨1, by omega, rfl, fun _ => C.out, by omega, by omega⟩
        case measure => simp [intOf]
    · by_cases c : a0 = 48
      · have C := Aside0.mk c
        have cb : ((48 : Int) == a0) = true := by simp [c]
        clear c
        go_wp2
        go_ret2
        have h := H.out
        unfold charset_set.f at h
        rw [if_neg (K0.out (by omega)), if_pos C.out] at h
        simp only [Option.some.injEq, Prod.mk.injEq] at h
        obtain ⟨rfl, rfl⟩ := h
        exact ⟨rfl, Below.refl _ _⟩
      · have C := Aside0.mk c
        have cb : ((48 : Int) == a0) = false := by simp; omega
        clear c
        go_wp2
        go_round
        case rel => exact ⟨2, by omega, rfl, fun _ => K0.out (by omega), fun _ => C.out, by omega⟩
        case measure => simp [intOf]
    · by_cases c : a0 = 65
      · have C := Aside0.mk c
        have cb : ((65 : Int) == a0) = true := by simp [c]
        clear c
        go_wp2
        go_ret2
        have h := H.out
        unfold charset_set.f at h
        rw [if_neg (K0.out (by omega)), if_neg (K1.out (by omega)), if_pos C.out] at h
        simp only [Option.some.injEq, Prod.mk.injEq] at h
        obtain ⟨rfl, rfl⟩ := h
        exact ⟨rfl, Below.refl _ _⟩
      · have C := Aside0.mk c
        have cb : ((65 : Int) == a0) = false := by simp; omega
        clear c
        go_wp2
        go_round
        case rel => exact ⟨3, by omega, rfl, fun _ => K0.out (by omega), fun _ => K1.out (by omega), fun _ => C.out⟩
        case measure => simp [intOf]
    · go_wp2
      go_ret2
      have h := H.out
      unfold charset_set.f at h
      rw [if_neg (K0.out (by omega)), if_neg (K1.out (by omega)), if_neg (K2.out (by omega))] at h
      simp only [Option.some.injEq, Prod.mk.injEq] at h
      obtain ⟨rfl, rfl⟩ := h
      exact ⟨rfl, Below.refl _ _⟩

/-! ### charset_Choice_Designate: function 14 -/
-- (a text of this session's own)
def charset_Choice_Designate.f (a0_0 : Int) (a0_1 : Int) (a0_2 : Int) (a0_3 : Int) (a0_4 : Int) (a0_5 : Int) (a1 : Int) (a2 : Int) : Option (Int × Int × Int × Int × Int × Int × Bool) :=
  (charset_set.f a2).bind fun q => if q.2 = true then (if a1 = 0 then some (q.1 % 256, a0_1, a0_2, a0_3, a0_4, a0_5, true) else if a1 = 1 then some (a0_0, q.1 % 256, a0_2, a0_3, a0_4, a0_5, true) else if a1 = 2 then some (a0_0, a0_1, q.1 % 256, a0_3, a0_4, a0_5, true) else if a1 = 3 then some (a0_0, a0_1, a0_2, q.1 % 256, a0_4, a0_5, true) else some (a0_0, a0_1, a0_2, a0_3, a0_4, a0_5, false)) else some (a0_0, a0_1, a0_2, a0_3, a0_4, a0_5, false)
set_option maxHeartbeats 4000000 in
theorem charset_Choice_Designate.calls (a0_0 : Int) (a0_1 : Int) (a0_2 : Int) (a0_3 : Int) (a0_4 : Int) (a0_5 : Int) (a1 : Int) (a2 : Int) (r1 : Int) (r2 : Int) (r3 : Int) (r4 : Int) (r5 : Int) (r6 : Int) (r7 : Bool) (w : World) (h : charset_Choice_Designate.f a0_0 a0_1 a0_2 a0_3 a0_4 a0_5 a1 a2 = some (r1, r2, r3, r4, r5, r6, r7)) :
    Calls Try.prog 14 #[.agg #[.int .u8 a0_0, .int .u8 a0_1, .int .u8 a0_2, .int .u8 a0_3, .int .u8 a0_4, .int .u8 a0_5], .int .i64 a1, .int .u8 a2] w fun e w' => e = .returned (.tuple #[.agg #[.int .u8 r1, .int .u8 r2, .int .u8 r3, .int .u8 r4, .int .u8 r5, .int .u8 r6], .bool r7]) ∧ Below w.heap.size w w' := by
  have h := h
  obtain ⟨⟨n, is⟩, hq⟩ : ∃ q, charset_set.f a2 = some q := by unfold charset_set.f; repeat (first | exact ⟨_, rfl⟩ | split)
  unfold charset_Choice_Designate.f at h
  rw [hq] at h
  simp only [Option.bind_some] at h
  have HQ := Aside0.mk hq
  clear hq
  cases is
  · simp only [Bool.false_eq_true, if_false, Option.some.injEq, Prod.mk.injEq] at h
    obtain ⟨rfl, rfl, rfl, rfl, rfl, rfl, rfl⟩ := h
    go_enter Try.func14, Try.ntmps14
    go_wp2_with fail; refine (charset_set.calls _ _ _ _ HQ.out).mono ?_; rintro e w1 ⟨rfl, hd⟩; have HD := Aside0.mk (Arr.below_two hd); have b0 := Arr.two_blk0 hd; have b1 := Arr.two_blk1 hd; have e00 : w1.cell? ⟨w.heap.size, 0, none⟩ = some (.int .u8 a0_0) := (blk_cell b0 0).trans rfl; have e10 : w1.cell? ⟨w.heap.size + 1, 0, none⟩ = some (.int .u8 0) := (blk_cell b1 0).trans rfl; have f00 := blk_frozen b0 0; have f10 := blk_frozen b1 0; have e01 : w1.cell? ⟨w.heap.size, 1, none⟩ = some (.int .u8 a0_1) := (blk_cell b0 1).trans rfl; have e11 : w1.cell? ⟨w.heap.size + 1, 1, none⟩ = some (.int .u8 0) := (blk_cell b1 1).trans rfl; have f01 := blk_frozen b0 1; have f11 := blk_frozen b1 1; have e02 : w1.cell? ⟨w.heap.size, 2, none⟩ = some (.int .u8 a0_2) := (blk_cell b0 2).trans rfl; have e12 : w1.cell? ⟨w.heap.size + 1, 2, none⟩ = some (.int .u8 0) := (blk_cell b1 2).trans rfl; have f02 := blk_frozen b0 2; have f12 := blk_frozen b1 2; have e03 : w1.cell? ⟨w.heap.size, 3, none⟩ = some (.int .u8 a0_3) := (blk_cell b0 3).trans rfl; have e13 : w1.cell? ⟨w.heap.size + 1, 3, none⟩ = some (.int .u8 0) := (blk_cell b1 3).trans rfl; have f03 := blk_frozen b0 3; have f13 := blk_frozen b1 3; have e04 : w1.cell? ⟨w.heap.size, 4, none⟩ = some (.int .u8 a0_4) := (blk_cell b0 4).trans rfl; have e14 : w1.cell? ⟨w.heap.size + 1, 4, none⟩ = some (.int .u8 0) := (blk_cell b1 4).trans rfl; have f04 := blk_frozen b0 4; have f14 := blk_frozen b1 4; have e05 : w1.cell? ⟨w.heap.size, 5, none⟩ = some (.int .u8 a0_5) := (blk_cell b0 5).trans rfl; have e15 : w1.cell? ⟨w.heap.size + 1, 5, none⟩ = some (.int .u8 0) := (blk_cell b1 5).trans rfl; have f05 := blk_frozen b0 5; have f15 := blk_frozen b1 5; clear b0 b1 hd; go_wp2
    refine bodyPost_ret (v := .tuple #[.agg #[.int .u8 a0_0, .int .u8 a0_1, .int .u8 a0_2, .int .u8 a0_3, .int .u8 a0_4, .int .u8 a0_5], .bool false]) (by simp [results, Try.results14, go_sem, e10, e00, e11, e01, e12, e02, e13, e03, e14, e04, e15, e05]) rfl ⟨rfl, ?_⟩
    (repeat (first | (with_reducible exact HD.out) | (with_reducible refine Arr.bset0 ?_) | (with_reducible refine Arr.bset1 ?_)))
  · simp only [if_true] at h
    by_cases c0 : a1 = 0
    · subst c0
      simp only [if_true, Option.some.injEq, Prod.mk.injEq] at h
      obtain ⟨rfl, rfl, rfl, rfl, rfl, rfl, rfl⟩ := h
      go_enter Try.func14, Try.ntmps14
      go_wp2_with fail; refine (charset_set.calls _ _ _ _ HQ.out).mono ?_; rintro e w1 ⟨rfl, hd⟩; have HD := Aside0.mk (Arr.below_two hd); have b0 := Arr.two_blk0 hd; have b1 := Arr.two_blk1 hd; have e00 : w1.cell? ⟨w.heap.size, 0, none⟩ = some (.int .u8 a0_0) := (blk_cell b0 0).trans rfl; have e10 : w1.cell? ⟨w.heap.size + 1, 0, none⟩ = some (.int .u8 0) := (blk_cell b1 0).trans rfl; have f00 := blk_frozen b0 0; have f10 := blk_frozen b1 0; have e01 : w1.cell? ⟨w.heap.size, 1, none⟩ = some (.int .u8 a0_1) := (blk_cell b0 1).trans rfl; have e11 : w1.cell? ⟨w.heap.size + 1, 1, none⟩ = some (.int .u8 0) := (blk_cell b1 1).trans rfl; have f01 := blk_frozen b0 1; have f11 := blk_frozen b1 1; have e02 : w1.cell? ⟨w.heap.size, 2, none⟩ = some (.int .u8 a0_2) := (blk_cell b0 2).trans rfl; have e12 : w1.cell? ⟨w.heap.size + 1, 2, none⟩ = some (.int .u8 0) := (blk_cell b1 2).trans rfl; have f02 := blk_frozen b0 2; have f12 := blk_frozen b1 2; have e03 : w1.cell? ⟨w.heap.size, 3, none⟩ = some (.int .u8 a0_3) := (blk_cell b0 3).trans rfl; have e13 : w1.cell? ⟨w.heap.size + 1, 3, none⟩ = some (.int .u8 0) := (blk_cell b1 3).trans rfl; have f03 := blk_frozen b0 3; have f13 := blk_frozen b1 3; have e04 : w1.cell? ⟨w.heap.size, 4, none⟩ = some (.int .u8 a0_4) := (blk_cell b0 4).trans rfl; have e14 : w1.cell? ⟨w.heap.size + 1, 4, none⟩ = some (.int .u8 0) := (blk_cell b1 4).trans rfl; have f04 := blk_frozen b0 4; have f14 := blk_frozen b1 4; have e05 : w1.cell? ⟨w.heap.size, 5, none⟩ = some (.int .u8 a0_5) := (blk_cell b0 5).trans rfl; have e15 : w1.cell? ⟨w.heap.size + 1, 5, none⟩ = some (.int .u8 0) := (blk_cell b1 5).trans rfl; have f05 := blk_frozen b0 5; have f15 := blk_frozen b1 5; clear b0 b1 hd; go_wp2
      refine bodyPost_ret (v := .tuple #[.agg #[.int .u8 (n % 256), .int .u8 (a0_1), .int .u8 (a0_2), .int .u8 (a0_3), .int .u8 (a0_4), .int .u8 (a0_5)], .bool true]) (by simp [results, Try.results14, go_sem, e10, e00, e11, e01, e12, e02, e13, e03, e14, e04, e15, e05]) rfl ⟨rfl, ?_⟩
      (repeat (first | (with_reducible exact HD.out) | (with_reducible refine Arr.bset0 ?_) | (with_reducible refine Arr.bset1 ?_)))
    · rw [if_neg c0] at h
      by_cases c1 : a1 = 1
      · subst c1
        simp only [if_true, Option.some.injEq, Prod.mk.injEq] at h
        obtain ⟨rfl, rfl, rfl, rfl, rfl, rfl, rfl⟩ := h
        go_enter Try.func14, Try.ntmps14
        go_wp2_with fail; refine (charset_set.calls _ _ _ _ HQ.out).mono ?_; rintro e w1 ⟨rfl, hd⟩; have HD := Aside0.mk (Arr.below_two hd); have b0 := Arr.two_blk0 hd; have b1 := Arr.two_blk1 hd; have e00 : w1.cell? ⟨w.heap.size, 0, none⟩ = some (.int .u8 a0_0) := (blk_cell b0 0).trans rfl; have e10 : w1.cell? ⟨w.heap.size + 1, 0, none⟩ = some (.int .u8 0) := (blk_cell b1 0).trans rfl; have f00 := blk_frozen b0 0; have f10 := blk_frozen b1 0; have e01 : w1.cell? ⟨w.heap.size, 1, none⟩ = some (.int .u8 a0_1) := (blk_cell b0 1).trans rfl; have e11 : w1.cell? ⟨w.heap.size + 1, 1, none⟩ = some (.int .u8 0) := (blk_cell b1 1).trans rfl; have f01 := blk_frozen b0 1; have f11 := blk_frozen b1 1; have e02 : w1.cell? ⟨w.heap.size, 2, none⟩ = some (.int .u8 a0_2) := (blk_cell b0 2).trans rfl; have e12 : w1.cell? ⟨w.heap.size + 1, 2, none⟩ = some (.int .u8 0) := (blk_cell b1 2).trans rfl; have f02 := blk_frozen b0 2; have f12 := blk_frozen b1 2; have e03 : w1.cell? ⟨w.heap.size, 3, none⟩ = some (.int .u8 a0_3) := (blk_cell b0 3).trans rfl; have e13 : w1.cell? ⟨w.heap.size + 1, 3, none⟩ = some (.int .u8 0) := (blk_cell b1 3).trans rfl; have f03 := blk_frozen b0 3; have f13 := blk_frozen b1 3; have e04 : w1.cell? ⟨w.heap.size, 4, none⟩ = some (.int .u8 a0_4) := (blk_cell b0 4).trans rfl; have e14 : w1.cell? ⟨w.heap.size + 1, 4, none⟩ = some (.int .u8 0) := (blk_cell b1 4).trans rfl; have f04 := blk_frozen b0 4; have f14 := blk_frozen b1 4; have e05 : w1.cell? ⟨w.heap.size, 5, none⟩ = some (.int .u8 a0_5) := (blk_cell b0 5).trans rfl; have e15 : w1.cell? ⟨w.heap.size + 1, 5, none⟩ = some (.int .u8 0) := (blk_cell b1 5).trans rfl; have f05 := blk_frozen b0 5; have f15 := blk_frozen b1 5; clear b0 b1 hd; go_wp2
        refine bodyPost_ret (v := .tuple #[.agg #[.int .u8 (a0_0), .int .u8 (n % 256), .int .u8 (a0_2), .int .u8 (a0_3), .int .u8 (a0_4), .int .u8 (a0_5)], .bool true]) (by simp [results, Try.results14, go_sem, e10, e00, e11, e01, e12, e02, e13, e03, e14, e04, e15, e05]) rfl ⟨rfl, ?_⟩
        (repeat (first | (with_reducible exact HD.out) | (with_reducible refine Arr.bset0 ?_) | (with_reducible refine Arr.bset1 ?_)))
      · rw [if_neg c1] at h
        by_cases c2 : a1 = 2
        · subst c2
          simp only [if_true, Option.some.injEq, Prod.mk.injEq] at h
          obtain ⟨rfl, rfl, rfl, rfl, rfl, rfl, rfl⟩ := h
          go_enter Try.func14, Try.ntmps14
          go_wp2_with fail; refine (charset_set.calls _ _ _ _ HQ.out).mono ?_; rintro e w1 ⟨rfl, hd⟩; have HD := Aside0.mk (Arr.below_two hd); have b0 := Arr.two_blk0 hd; have b1 := Arr.two_blk1 hd; have e00 : w1.cell? ⟨w.heap.size, 0, none⟩ = some (.int .u8 a0_0) := (blk_cell b0 0).trans rfl; have e10 : w1.cell? ⟨w.heap.size + 1, 0, none⟩ = some (.int .u8 0) := (blk_cell b1 0).trans rfl; have f00 := blk_frozen b0 0; have f10 := blk_frozen b1 0; have e01 : w1.cell? ⟨w.heap.size, 1, none⟩ = some (.int .u8 a0_1) := (blk_cell b0 1).trans rfl; have e11 : w1.cell? ⟨w.heap.size + 1, 1, none⟩ = some (.int .u8 0) := (blk_cell b1 1).trans rfl; have f01 := blk_frozen b0 1; have f11 := blk_frozen b1 1; have e02 : w1.cell? ⟨w.heap.size, 2, none⟩ = some (.int .u8 a0_2) := (blk_cell b0 2).trans rfl; have e12 : w1.cell? ⟨w.heap.size + 1, 2, none⟩ = some (.int .u8 0) := (blk_cell b1 2).trans rfl; have f02 := blk_frozen b0 2; have f12 := blk_frozen b1 2; have e03 : w1.cell? ⟨w.heap.size, 3, none⟩ = some (.int .u8 a0_3) := (blk_cell b0 3).trans rfl; have e13 : w1.cell? ⟨w.heap.size + 1, 3, none⟩ = some (.int .u8 0) := (blk_cell b1 3).trans rfl; have f03 := blk_frozen b0 3; have f13 := blk_frozen b1 3; have e04 : w1.cell? ⟨w.heap.size, 4, none⟩ = some (.int .u8 a0_4) := (blk_cell b0 4).trans rfl; have e14 : w1.cell? ⟨w.heap.size + 1, 4, none⟩ = some (.int .u8 0) := (blk_cell b1 4).trans rfl; have f04 := blk_frozen b0 4; have f14 := blk_frozen b1 4; have e05 : w1.cell? ⟨w.heap.size, 5, none⟩ = some (.int .u8 a0_5) := (blk_cell b0 5).trans rfl; have e15 : w1.cell? ⟨w.heap.size + 1, 5, none⟩ = some (.int .u8 0) := (blk_cell b1 5).trans rfl; have f05 := blk_frozen b0 5; have f15 := blk_frozen b1 5; clear b0 b1 hd; go_wp2
          refine bodyPost_ret (v := .tuple #[.agg #[.int .u8 (a0_0), .int .u8 (a0_1), .int .u8 (n % 256), .int .u8 (a0_3), .int .u8 (a0_4), .int .u8 (a0_5)], .bool true]) (by simp [results, Try.results14, go_sem, e10, e00, e11, e01, e12, e02, e13, e03, e14, e04, e15, e05]) rfl ⟨rfl, ?_⟩
          (repeat (first | (with_reducible exact HD.out) | (with_reducible refine Arr.bset0 ?_) | (with_reducible refine Arr.bset1 ?_)))
        · rw [if_neg c2] at h
          by_cases c3 : a1 = 3
          · subst c3
            simp only [if_true, Option.some.injEq, Prod.mk.injEq] at h
            obtain ⟨rfl, rfl, rfl, rfl, rfl, rfl, rfl⟩ := h
            go_enter Try.func14, Try.ntmps14
            go_wp2_with fail; refine (charset_set.calls _ _ _ _ HQ.out).mono ?_; rintro e w1 ⟨rfl, hd⟩; have HD := Aside0.mk (Arr.below_two hd); have b0 := Arr.two_blk0 hd; have b1 := Arr.two_blk1 hd; have e00 : w1.cell? ⟨w.heap.size, 0, none⟩ = some (.int .u8 a0_0) := (blk_cell b0 0).trans rfl; have e10 : w1.cell? ⟨w.heap.size + 1, 0, none⟩ = some (.int .u8 0) := (blk_cell b1 0).trans rfl; have f00 := blk_frozen b0 0; have f10 := blk_frozen b1 0; have e01 : w1.cell? ⟨w.heap.size, 1, none⟩ = some (.int .u8 a0_1) := (blk_cell b0 1).trans rfl; have e11 : w1.cell? ⟨w.heap.size + 1, 1, none⟩ = some (.int .u8 0) := (blk_cell b1 1).trans rfl; have f01 := blk_frozen b0 1; have f11 := blk_frozen b1 1; have e02 : w1.cell? ⟨w.heap.size, 2, none⟩ = some (.int .u8 a0_2) := (blk_cell b0 2).trans rfl; have e12 : w1.cell? ⟨w.heap.size + 1, 2, none⟩ = some (.int .u8 0) := (blk_cell b1 2).trans rfl; have f02 := blk_frozen b0 2; have f12 := blk_frozen b1 2; have e03 : w1.cell? ⟨w.heap.size, 3, none⟩ = some (.int .u8 a0_3) := (blk_cell b0 3).trans rfl; have e13 : w1.cell? ⟨w.heap.size + 1, 3, none⟩ = some (.int .u8 0) := (blk_cell b1 3).trans rfl; have f03 := blk_frozen b0 3; have f13 := blk_frozen b1 3; have e04 : w1.cell? ⟨w.heap.size, 4, none⟩ = some (.int .u8 a0_4) := (blk_cell b0 4).trans rfl; have e14 : w1.cell? ⟨w.heap.size + 1, 4, none⟩ = some (.int .u8 0) := (blk_cell b1 4).trans rfl; have f04 := blk_frozen b0 4; have f14 := blk_frozen b1 4; have e05 : w1.cell? ⟨w.heap.size, 5, none⟩ = some (.int .u8 a0_5) := (blk_cell b0 5).trans rfl; have e15 : w1.cell? ⟨w.heap.size + 1, 5, none⟩ = some (.int .u8 0) := (blk_cell b1 5).trans rfl; have f05 := blk_frozen b0 5; have f15 := blk_frozen b1 5; clear b0 b1 hd; go_wp2
            refine bodyPost_ret (v := .tuple #[.agg #[.int .u8 (a0_0), .int .u8 (a0_1), .int .u8 (a0_2), .int .u8 (n % 256), .int .u8 (a0_4), .int .u8 (a0_5)], .bool true]) (by simp [results, Try.results14, go_sem, e10, e00, e11, e01, e12, e02, e13, e03, e14, e04, e15, e05]) rfl ⟨rfl, ?_⟩
            (repeat (first | (with_reducible exact HD.out) | (with_reducible refine Arr.bset0 ?_) | (with_reducible refine Arr.bset1 ?_)))
          · rw [if_neg c3] at h
            simp only [Option.some.injEq, Prod.mk.injEq] at h
            obtain ⟨rfl, rfl, rfl, rfl, rfl, rfl, rfl⟩ := h
            by_cases d0 : a1 < 0
            · have e0 : decide (a1 < 0) = true := by simpa using d0
              go_enter Try.func14, Try.ntmps14
              go_wp2_with fail; refine (charset_set.calls _ _ _ _ HQ.out).mono ?_; rintro e w1 ⟨rfl, hd⟩; have HD := Aside0.mk (Arr.below_two hd); have b0 := Arr.two_blk0 hd; have b1 := Arr.two_blk1 hd; have e00 : w1.cell? ⟨w.heap.size, 0, none⟩ = some (.int .u8 a0_0) := (blk_cell b0 0).trans rfl; have e10 : w1.cell? ⟨w.heap.size + 1, 0, none⟩ = some (.int .u8 0) := (blk_cell b1 0).trans rfl; have f00 := blk_frozen b0 0; have f10 := blk_frozen b1 0; have e01 : w1.cell? ⟨w.heap.size, 1, none⟩ = some (.int .u8 a0_1) := (blk_cell b0 1).trans rfl; have e11 : w1.cell? ⟨w.heap.size + 1, 1, none⟩ = some (.int .u8 0) := (blk_cell b1 1).trans rfl; have f01 := blk_frozen b0 1; have f11 := blk_frozen b1 1; have e02 : w1.cell? ⟨w.heap.size, 2, none⟩ = some (.int .u8 a0_2) := (blk_cell b0 2).trans rfl; have e12 : w1.cell? ⟨w.heap.size + 1, 2, none⟩ = some (.int .u8 0) := (blk_cell b1 2).trans rfl; have f02 := blk_frozen b0 2; have f12 := blk_frozen b1 2; have e03 : w1.cell? ⟨w.heap.size, 3, none⟩ = some (.int .u8 a0_3) := (blk_cell b0 3).trans rfl; have e13 : w1.cell? ⟨w.heap.size + 1, 3, none⟩ = some (.int .u8 0) := (blk_cell b1 3).trans rfl; have f03 := blk_frozen b0 3; have f13 := blk_frozen b1 3; have e04 : w1.cell? ⟨w.heap.size, 4, none⟩ = some (.int .u8 a0_4) := (blk_cell b0 4).trans rfl; have e14 : w1.cell? ⟨w.heap.size + 1, 4, none⟩ = some (.int .u8 0) := (blk_cell b1 4).trans rfl; have f04 := blk_frozen b0 4; have f14 := blk_frozen b1 4; have e05 : w1.cell? ⟨w.heap.size, 5, none⟩ = some (.int .u8 a0_5) := (blk_cell b0 5).trans rfl; have e15 : w1.cell? ⟨w.heap.size + 1, 5, none⟩ = some (.int .u8 0) := (blk_cell b1 5).trans rfl; have f05 := blk_frozen b0 5; have f15 := blk_frozen b1 5; clear b0 b1 hd; go_wp2
              refine bodyPost_ret (v := .tuple #[.agg #[.int .u8 (a0_0), .int .u8 (a0_1), .int .u8 (a0_2), .int .u8 (a0_3), .int .u8 (a0_4), .int .u8 (a0_5)], .bool false]) (by simp [results, Try.results14, go_sem, e10, e00, e11, e01, e12, e02, e13, e03, e14, e04, e15, e05]) rfl ⟨rfl, ?_⟩
              (repeat (first | (with_reducible exact HD.out) | (with_reducible refine Arr.bset0 ?_) | (with_reducible refine Arr.bset1 ?_)))
            · have e0 : decide (a1 < 0) = false := by simpa using d0
              have e4 : decide (4 ≤ a1) = true := by simp; omega
              go_enter Try.func14, Try.ntmps14
              go_wp2_with fail; refine (charset_set.calls _ _ _ _ HQ.out).mono ?_; rintro e w1 ⟨rfl, hd⟩; have HD := Aside0.mk (Arr.below_two hd); have b0 := Arr.two_blk0 hd; have b1 := Arr.two_blk1 hd; have e00 : w1.cell? ⟨w.heap.size, 0, none⟩ = some (.int .u8 a0_0) := (blk_cell b0 0).trans rfl; have e10 : w1.cell? ⟨w.heap.size + 1, 0, none⟩ = some (.int .u8 0) := (blk_cell b1 0).trans rfl; have f00 := blk_frozen b0 0; have f10 := blk_frozen b1 0; have e01 : w1.cell? ⟨w.heap.size, 1, none⟩ = some (.int .u8 a0_1) := (blk_cell b0 1).trans rfl; have e11 : w1.cell? ⟨w.heap.size + 1, 1, none⟩ = some (.int .u8 0) := (blk_cell b1 1).trans rfl; have f01 := blk_frozen b0 1; have f11 := blk_frozen b1 1; have e02 : w1.cell? ⟨w.heap.size, 2, none⟩ = some (.int .u8 a0_2) := (blk_cell b0 2).trans rfl; have e12 : w1.cell? ⟨w.heap.size + 1, 2, none⟩ = some (.int .u8 0) := (blk_cell b1 2).trans rfl; have f02 := blk_frozen b0 2; have f12 := blk_frozen b1 2; have e03 : w1.cell? ⟨w.heap.size, 3, none⟩ = some (.int .u8 a0_3) := (blk_cell b0 3).trans rfl; have e13 : w1.cell? ⟨w.heap.size + 1, 3, none⟩ = some (.int .u8 0) := (blk_cell b1 3).trans rfl; have f03 := blk_frozen b0 3; have f13 := blk_frozen b1 3; have e04 : w1.cell? ⟨w.heap.size, 4, none⟩ = some (.int .u8 a0_4) := (blk_cell b0 4).trans rfl; have e14 : w1.cell? ⟨w.heap.size + 1, 4, none⟩ = some (.int .u8 0) := (blk_cell b1 4).trans rfl; have f04 := blk_frozen b0 4; have f14 := blk_frozen b1 4; have e05 : w1.cell? ⟨w.heap.size, 5, none⟩ = some (.int .u8 a0_5) := (blk_cell b0 5).trans rfl; have e15 : w1.cell? ⟨w.heap.size + 1, 5, none⟩ = some (.int .u8 0) := (blk_cell b1 5).trans rfl; have f05 := blk_frozen b0 5; have f15 := blk_frozen b1 5; clear b0 b1 hd; go_wp2
              refine bodyPost_ret (v := .tuple #[.agg #[.int .u8 (a0_0), .int .u8 (a0_1), .int .u8 (a0_2), .int .u8 (a0_3), .int .u8 (a0_4), .int .u8 (a0_5)], .bool false]) (by simp [results, Try.results14, go_sem, e10, e00, e11, e01, e12, e02, e13, e03, e14, e04, e15, e05]) rfl ⟨rfl, ?_⟩
              (repeat (first | (with_reducible exact HD.out) | (with_reducible refine Arr.bset0 ?_) | (with_reducible refine Arr.bset1 ?_)))

end Go.Proofs.Ytkhdobhcnhaokaa.All
