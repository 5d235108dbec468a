/- The law GridKnown's run: its first part as the kernel ran it, joined with the walk. -/
import Derived.Test.YtifemfnjoobiiaaKnA
import Derived.Test.YtifemfnjoobiiaaKnN
namespace Go.Proofs.Ytifemfnjoobiiaa.Run
open Go Go.RowKit
set_option linter.unusedVariables false
set_option linter.unusedSimpArgs false
set_option maxRecDepth 100000
theorem wpOps_append {F : Funs} {E : Orac} (a c : List MOper) : ∀ (t : List LV) (L : List LB) (M : Mem) (K : List LV → List LB → Mem → Prop), wpOps F E (a ++ c) t L M K = wpOps F E a t L M (fun t L M => wpOps F E c t L M K) := by
 induction a with
 | nil => intro t L M K; rfl
 | cons o os ih =>
  intro t L M K
  show wpStep F E o t L M (fun t' L' M' => wpOps F E (os ++ c) t' L' M' K) = wpStep F E o t L M (fun t' L' M' => wpOps F E os t' L' M' (fun t L M => wpOps F E c t L M K))
  congr 1
  funext t' L' M'
  exact ih t' L' M' K
def regs : List (List MOper) → MCode
 | [] => .ret
 | o :: l => .seq (.region false o) (regs l)
theorem wpC_regs {F : Funs} {E : Orac} {ar : Option Nat} (l : List (List MOper)) : ∀ (s : LS) (Q : XE → LS → Prop), wpC F E ar (regs l) s Q = wpOps F E l.flatten s.t s.L s.M (fun t L M => wpC F E ar .ret ⟨t, L, s.ds, M⟩ Q) := by
 induction l with
 | nil => intro s Q; rfl
 | cons o l ih =>
  intro s Q
  rw [List.flatten_cons, wpOps_append]
  show wpOps F E o s.t s.L s.M (fun t L M => wpC F E ar (regs l) ⟨t, L, s.ds, M⟩ Q) = _
  congr 1
  funext t L M
  exact ih ⟨t, L, s.ds, M⟩ Q
def regsOf : MCode → List (List MOper)
 | .seq (.region _ o) b => o :: regsOf b
 | _ => []
theorem regsA : law11_GridKnown_c0 = regs (regsOf law11_GridKnown_c0) := by kernel_rfl
theorem regsP : law11_GridKnownP_c0 = regs (regsOf law11_GridKnownP_c0) := by kernel_rfl
theorem regs_same : (regsOf law11_GridKnownP_c0).flatten = (regsOf law11_GridKnown_c0).flatten := by kernel_rfl
theorem unchunk {ar : Option Nat} {s : LS} {Q : XE → LS → Prop} (h : wpC funs known ar law11_GridKnownP_c0 s Q) : wpC funs known ar law11_GridKnown_c0 s Q := by
 rw [regsA, wpC_regs, ← regs_same]
 rw [regsP, wpC_regs] at h
 exact h
theorem got_of {x : Option (Value × Mem)} {v : Value} (h : gotO x = true) (hv : outV x = v) : x = some (v, outM x) := by rw [gotO_eq h]; subst hv; rfl
theorem ext_eq {v : Value} {i : Nat} {M : Mem} (h : gotO (opSem (.extract (.const v) i) [] M) = true) : opSem (.extract (.const v) i) [] M = some (outV (opSem (.extract (.const v) i) [] M), M) := by
 cases v with
 | tuple vs =>
  simp only [opSem, ev] at h ⊢
  cases hx : vs.toList[i]? with
  | none => rw [hx] at h; cases h
  | some x => rfl
 | _ => cases h
abbrev gZ : Gd := [[zeroC, zeroC], [zeroC, zeroC]]
theorem kGp : Gp ⟨0, 0, .e⟩ kM14 1 10 2 gZ := by
 have h := kMem_ok
 obtain ⟨_, h⟩ := Prod.mk.inj h
 obtain ⟨h1, h⟩ := Prod.mk.inj h
 obtain ⟨h10, h⟩ := Prod.mk.inj h
 obtain ⟨h109, h118⟩ := Prod.mk.inj h
 refine ⟨[(.slice (some ⟨109, 0, none⟩) 2 2, [zeroC, zeroC]), (.slice (some ⟨118, 0, none⟩) 2 2, [zeroC, zeroC])], some 0, 2, [], ⟨Nat.zero_le _, Nat.zero_le _, h1, h10, Nat.le_refl _, ?_, ?_, by decide, by decide, by decide, by decide⟩, rfl⟩
 ·intro p hp
  simp only [List.mem_cons, List.not_mem_nil, or_false] at hp
  rcases hp with rfl | rfl
  ·exact ⟨109, none, rfl, h109, Nat.zero_le _⟩
  ·exact ⟨118, none, rfl, h118, Nat.zero_le _⟩
 ·intro p hp
  simp only [List.mem_cons, List.not_mem_nil, or_false] at hp
  rcases hp with rfl | rfl <;> rfl
structure Walk (M1 M2 M3 M4 M5 M6 M7 M8 M10 M12 M13 M14 : Mem) (u2 u3 u4 u5 l6 u8 e8 w8 u10 e10 w10 l13 : Value) : Prop where
 h1 : runK n_grid_New [.int .i64 2, .int .i64 3, zeroC.val] ⟨0, 0, .e⟩ = some (kR, M1)
 h2 : runK n_grid_Grid_Put [kR, posV 0 1, wideC.val, .bool true] M1 = some (u2, M2)
 h3 : runK n_grid_Grid_Put [kR, posV 1 2, wideC.val, .bool true] M2 = some (u3, M3)
 h4 : runK n_grid_Grid_Put [kR, posV 2 0, xC.val, .bool false] M3 = some (u4, M4)
 h5 : runK n_grid_Grid_Put [kR, posV 0 3, xC.val, .bool false] M4 = some (u5, M5)
 h6 : opSem (.lit 9 2 [(.string (bs [])), (.string (bs []))] [(0, (1, (.const (.string (bs [32, 228, 184, 173]))))), (1, (1, (.const (.string (bs [32, 32, 32])))))]) [] M5 = some (l6, M6)
 h7 : runK n_law11_texts [kR, l6] M6 = some (.bool true, M7)
 h8 : runK n_grid_Grid_At [kR, posV 0 1] M7 = some (u8, M8)
 x8 : opSem (.extract (.const u8) 0) [] M8 = some (e8, M8)
 y8 : opSem (.extract (.const u8) 1) [] M8 = some (w8, M8)
 c8 : (Value.cells e8).size = 14 ∧ notTup e8 = true
 h10 : runK n_grid_Grid_At [kR, posV 0 2] ((M8.push (.cells ZV 42 true)).set M8.size (.cells (splice ZV 0 (Value.cells e8).toList) 42 true)) = some (u10, M10)
 x10 : opSem (.extract (.const u10) 0) [] M10 = some (e10, M10)
 y10 : opSem (.extract (.const u10) 1) [] M10 = some (w10, M10)
 c10 : (Value.cells e10).size = 14 ∧ notTup e10 = true
 h12 : runK n_grid_Grid_Resize [kR, .int .i64 2, .int .i64 2, zeroC.val] ((M10.push (.cells ZV 42 true)).set M10.size (.cells (splice ZV 0 (Value.cells e10).toList) 42 true)) = some (.bool true, M12)
 h13 : opSem (.lit 9 2 [(.string (bs [])), (.string (bs []))] [(0, (1, (.const (.string (bs [32, 32]))))), (1, (1, (.const (.string (bs [32, 32])))))]) [] M12 = some (l13, M13)
 h14 : runK n_law11_texts [kR, l13] M13 = some (.bool true, M14)
 k10 : KeepB [M8.size] ((M8.push (.cells ZV 42 true)).set M8.size (.cells (splice ZV 0 (Value.cells e8).toList) 42 true)) M10
 k12 : KeepB [M8.size, M10.size] ((M10.push (.cells ZV 42 true)).set M10.size (.cells (splice ZV 0 (Value.cells e10).toList) 42 true)) M12
 k13 : KeepB [M8.size, M10.size] M12 M13
 k14 : KeepB [M8.size, M10.size] M13 M14
 f0 : (splice ZV 0 (Value.cells e8).toList)[3]? = some (.int .u8 1)
 f1 : (splice ZV 0 (Value.cells e10).toList)[3]? = some (.int .u8 2)
 base : M14.base = 0
 s8 : M8.size = 90
 s10 : M10.size = 94
 s14 : M14.size = 154
 gp : Gp ⟨0, 0, .e⟩ M14 1 10 2 gZ
theorem W_runE' {f : Nat} {args : List Value} {M M' : Mem} {v : Value} {Q : Value → Mem → Prop} (h : runK f args M = some (v, M')) (q : Q v M') : W funs known (.func (.func f) #[] #[]) args M Q :=
 ⟨900, v, M', h, q⟩
set_option maxHeartbeats 4000000 in
theorem gknown_walk {M1 M2 M3 M4 M5 M6 M7 M8 M10 M12 M13 M14 : Mem} {u2 u3 u4 u5 l6 u8 e8 w8 u10 e10 w10 l13 : Value} (w : Walk M1 M2 M3 M4 M5 M6 M7 M8 M10 M12 M13 M14 u2 u3 u4 u5 l6 u8 e8 w8 u10 e10 w10 l13) :
  W funs known (.func (.func n_law11_GridKnown) #[] #[]) [] ⟨0, 0, .e⟩ (fun r _ => r = .bool true) := by
 refine law11_GridKnown_wp (Nat.le_refl _) ⟨zeroC.val, rfl, W_runE' w.h1 ?_⟩
 refine ⟨posV 0 1, rfl, wideC.val, rfl, W_runE' w.h2 ⟨posV 1 2, rfl, wideC.val, rfl, W_runE' w.h3 ⟨posV 2 0, rfl, xC.val, rfl, W_runE' w.h4 ⟨posV 0 3, rfl, xC.val, rfl, W_runE' w.h5 ⟨l6, M6, w.h6, W_runE' w.h7 ⟨posV 0 1, rfl, W_runE' w.h8 ⟨e8, w.x8, w8, w.y8, rfl, ?_⟩⟩⟩⟩⟩⟩⟩
 rintro _ _ rfl rfl
 refine ⟨⟨w.c8.1, w.c8.2, by decide⟩, ?_⟩
 rintro _ rfl
 refine ⟨posV 0 2, rfl, W_runE' w.h10 ⟨w.k10, e10, w.x10, w10, w.y10, rfl, ?_⟩⟩
 rintro _ _ rfl rfl
 refine ⟨⟨w.c10.1, w.c10.2, by decide⟩, ?_⟩
 rintro _ rfl
 refine ⟨zeroC.val, rfl, W_runE' w.h12 ⟨w.k12, wpIf.tt ⟨l13, M13, w.h13, w.k13, W_runE' w.h14 ⟨w.k14, unchunk ?_⟩⟩⟩⟩
 have k14 : M14.base ≤ M14.size := by rw [w.base]; exact Nat.zero_le _
 have e0 : Ext ⟨0, 0, .e⟩ M14 := ⟨w.base, Nat.zero_le _, fun c hc => absurd hc (Nat.not_lt_zero _)⟩
 have z14 := w.s14
 have z8 := w.s8
 have z10 := w.s10
 refine law11_GridKnownP_c0_wp ⟨zeroC.val, rfl, gnew_W k14 (fun h => absurd h (by decide)) fun _ M3 bb rbb e3 gb => ⟨e3.keep _, zeroC.val, rfl, gnew_W (e3.ok k14) (fun _ M6 e6 => ⟨e6.keep _, ?_⟩) (fun h => absurd h (by decide))⟩⟩
 have k6 := (e3.trans e6).ok k14
 refine size_W k6 (gb.ext e6) ⟨KeepB.refl _ _, _, rfl, _, rfl, posV 0 0, rfl, nat_W k6 fun M13' e13 => ⟨e13.keep _, _, rfl, _, rfl, rfl, fun b16 M17 h16 h17 => ⟨⟨rfl, rfl, by decide⟩, fun M18 h18 => ⟨posV 0 0, rfl, zeroC.val, rfl, ?_⟩⟩⟩⟩
 have e17 : Ext M13' M17 := Ext.push' h17
 have s17 : M17.size = M13'.size + 1 := by rw [h17]; rfl
 have e18 : Ext M13' M18 := h18 ▸ e17.set (by omega) (by omega) _
 have E13 := e3.trans (e6.trans e13)
 have E18 := E13.trans e18
 have k18 := E18.ok k14
 refine nput_W k18 fun M22 e22 => ⟨e22.keep _, nraise_W (e22.ok k18) fun M24 e24 => ⟨e24.keep _, zeroC.val, rfl, nerase_W ((e22.trans e24).ok k18) fun M27 e27 => ⟨e27.keep _, nsize_W ((e22.trans (e24.trans e27)).ok k18) ⟨KeepB.refl _ _, _, rfl, _, rfl, ?_⟩⟩⟩⟩
 have E27 := E18.trans (e22.trans (e24.trans e27))
 have k27 := E27.ok k14
 have z13 := E13.size
 refine graise_W (e0.trans E27) (Nat.le_refl _) (w.gp.ext E27) fun M33 t33 g33 => ⟨fun y hy hs => t33.get y hs ?_, W_known (r := .bool true) rfl ⟨KeepB.refl _ _, wpIf.tt (wpIf.tt (LGet.mk (v := .int .u8 1) w.f0 (s_eqT rfl ?_)))⟩⟩
 ·simp only [List.mem_cons, List.not_mem_nil, or_false] at hy
  omega
 have e33 : Ext ⟨0, 0, .e⟩ M33 := ⟨t33.base.trans (e0.trans E27).base, Nat.zero_le _, fun c hc => absurd hc (Nat.not_lt_zero _)⟩
 have k33 : M33.base ≤ M33.size := e33.ok (Nat.le_refl _)
 refine law11_GridKnownP_c1_wp (wpIf.tt (LGet.mk (v := .int .u8 2) w.f1 (s_eqT rfl (wpIf.tt (wpIf.tt (s_eqT (by rw [List.length_replicate]; rfl) ?_))))))
 refine law11_GridKnownP_c2_wp (wpIf.tt (s_eqT rfl (wpIf.tt ⟨.bool true, rfl, wpIf.tt ⟨zeroC.val, rfl, gnew_W k33 (fun _ N5 f5 => ⟨f5.keep _, .bool true, rfl, ?_⟩) (fun h => absurd h (by decide))⟩⟩)))
 have k5 := f5.ok k33
 refine law11_GridKnownP_c3_wp (wpIf.tt ⟨zeroC.val, rfl, gnew_W k5 (fun _ N3 f3 => ⟨f3.keep _, .bool true, rfl, wpIf.tt ⟨zeroC.val, rfl, ?_⟩⟩) (fun h => absurd h (by decide))⟩)
 have F3 := f5.trans f3
 refine gresize_W (e33.trans F3) (Nat.le_refl _) (g33.ext F3) (fun _ N7 f7 => ⟨f7.keep _, _, rfl, wpIf.tt ⟨zeroC.val, rfl, ?_⟩⟩) (fun h => absurd h (by decide))
 have F7 := F3.trans f7
 refine gresize_W (e33.trans F7) (Nat.le_refl _) (g33.ext F7) (fun _ N11 f11 => ⟨f11.keep _, _, rfl, ?_⟩) (fun h => absurd h (by decide))
 have F11 := F7.trans f11
 have k11 := F11.ok k33
 refine law11_GridKnownP_c4_wp (wpIf.tt (glevel_W k11 (g33.ext F11) fun N2 f2 => ⟨f2.keep _, s_eqT (by decide) (wpIf.tt ⟨_, rfl, wpIf.tt (s_eqT rfl ?_)⟩)⟩))
 have F2 := F11.trans f2
 have k2 := F2.ok k33
 refine law11_GridKnownP_c5_wp (wpIf.tt (s_eqT rfl (wpIf.tt (nrow_W k2 ⟨KeepB.refl _ _, step_len (s_eqT rfl (wpIf.tt (nset_W k2 ⟨KeepB.refl _ _, _, rfl, ?_⟩)))⟩))))
 refine law11_GridKnownP_c6_wp (wpIf.tt ⟨zeroC.val, rfl, nup_W k2 fun P3 p3 => ⟨p3.keep _, step_len (s_eqT rfl (wpIf.tt ⟨zeroC.val, rfl, nresize_W (p3.ok k2) fun P8 p8 => ⟨p8.keep _, _, rfl, wpIf.tt (nlevel_W ((p3.trans p8).ok k2) fun P11 p11 => ⟨p11.keep _, s_eqT rfl ?_⟩)⟩⟩))⟩⟩)
 have FP := F2.trans (p3.trans (p8.trans p11))
 have kP := FP.ok k33
 refine law11_GridKnownP_c7_wp (wpIf.tt (ncopy_W kP ⟨KeepB.refl _ _, .bool true, rfl, wpIf.tt (ntext_W kP fun P5 p5 => ⟨p5.keep _, step_len (s_eqT rfl (wpIf.tt (nsame_W (p5.ok kP) ⟨KeepB.refl _ _, ?_⟩)))⟩)⟩))
 have F5 := FP.trans p5
 have kF := F5.ok k33
 refine law11_GridKnownP_c8_wp (wpIf.tt (nsame'_W kF ⟨KeepB.refl _ _, _, rfl, wpIf.tt (grow_row_W kF (g33.ext F5) fun R5 v5 r5 n5 => ⟨r5.keep _, step_lenS n5.sl (s_eqT (by decide) (wpIf.tt (grow_row_W (r5.ok kF) (g33.ext (F5.trans r5)) fun R9 v9 r9 n9 => ⟨r9.keep _, step_lenS n9.sl (step_eql ?_)⟩)))⟩)⟩))
 exact congrArg Value.bool (by decide)
end Go.Proofs.Ytifemfnjoobiiaa.Run
namespace Go.Proofs.Ytifemfnjoobiiaa.Run
open Go Go.RowKit
set_option linter.unusedVariables false
set_option linter.unusedSimpArgs false
set_option maxRecDepth 100000
theorem k_all : kAll = true ∧ outV kS1 = kR ∧ gotO kS1 = true ∧ outV kS7 = .bool true ∧ gotO kS7 = true ∧ outV kS12 = .bool true ∧ gotO kS12 = true ∧ outV kS14 = .bool true ∧ gotO kS14 = true ∧ kM14.base = 0 ∧ kM8.size = 90 ∧ kM10.size = 94 := by
 have h := kAll_ok
 simp only [Prod.mk.injEq] at h
 exact h
theorem k_got : gotO kS2 = true ∧ gotO kS3 = true ∧ gotO kS4 = true ∧ gotO kS5 = true ∧ gotO kL6 = true ∧ gotO kS8 = true ∧ gotO kE8 = true ∧ gotO kF8 = true ∧ gotO kS10 = true ∧ gotO kE10 = true ∧ gotO kF10 = true ∧ gotO kL13 = true := by
 have h := k_all.1
 simp only [kAll, Bool.and_eq_true] at h
 obtain ⟨⟨⟨⟨⟨⟨⟨⟨⟨⟨⟨a2, a3⟩, a4⟩, a5⟩, a6⟩, a8⟩, aE8⟩, aF8⟩, a10⟩, aE10⟩, aF10⟩, a13⟩ := h
 exact ⟨a2, a3, a4, a5, a6, a8, aE8, aF8, a10, aE10, aF10, a13⟩
theorem k_cells : (Value.cells (outV kE8)).size = 14 ∧ notTup (outV kE8) = true ∧ (Value.cells (outV kE10)).size = 14 ∧ notTup (outV kE10) = true ∧ kC0[3]? = some (.int .u8 1) ∧ kC1[3]? = some (.int .u8 2) := by
 have h := kCells_ok
 simp only [Prod.mk.injEq] at h
 exact h
theorem w1 : runK n_grid_New [.int .i64 2, .int .i64 3, zeroC.val] ⟨0, 0, .e⟩ = some (kR, kM1) := got_of (x := kS1) k_all.2.2.1 k_all.2.1
theorem w2 : runK n_grid_Grid_Put [kR, posV 0 1, wideC.val, .bool true] kM1 = some (outV kS2, kM2) := gotO_eq (x := kS2) k_got.1
theorem w3 : runK n_grid_Grid_Put [kR, posV 1 2, wideC.val, .bool true] kM2 = some (outV kS3, kM3) := gotO_eq (x := kS3) k_got.2.1
theorem w4 : runK n_grid_Grid_Put [kR, posV 2 0, xC.val, .bool false] kM3 = some (outV kS4, kM4) := gotO_eq (x := kS4) k_got.2.2.1
theorem w5 : runK n_grid_Grid_Put [kR, posV 0 3, xC.val, .bool false] kM4 = some (outV kS5, kM5) := gotO_eq (x := kS5) k_got.2.2.2.1
theorem w6 : opSem (.lit 9 2 [(.string (bs [])), (.string (bs []))] [(0, (1, (.const (.string (bs [32, 228, 184, 173]))))), (1, (1, (.const (.string (bs [32, 32, 32])))))]) [] kM5 = some (outV kL6, kM6) := gotO_eq (x := kL6) k_got.2.2.2.2.1
theorem w7 : runK n_law11_texts [kR, outV kL6] kM6 = some (.bool true, kM7) := got_of (x := kS7) k_all.2.2.2.2.1 k_all.2.2.2.1
theorem w8 : runK n_grid_Grid_At [kR, posV 0 1] kM7 = some (outV kS8, kM8) := gotO_eq (x := kS8) k_got.2.2.2.2.2.1
theorem w8x : opSem (.extract (.const (outV kS8)) 0) [] kM8 = some (outV kE8, kM8) := ext_eq k_got.2.2.2.2.2.2.1
theorem w8y : opSem (.extract (.const (outV kS8)) 1) [] kM8 = some (outV kF8, kM8) := ext_eq k_got.2.2.2.2.2.2.2.1
theorem w10 : runK n_grid_Grid_At [kR, posV 0 2] kM9 = some (outV kS10, kM10) := gotO_eq (x := kS10) k_got.2.2.2.2.2.2.2.2.1
theorem w10x : opSem (.extract (.const (outV kS10)) 0) [] kM10 = some (outV kE10, kM10) := ext_eq k_got.2.2.2.2.2.2.2.2.2.1
theorem w10y : opSem (.extract (.const (outV kS10)) 1) [] kM10 = some (outV kF10, kM10) := ext_eq k_got.2.2.2.2.2.2.2.2.2.2.1
theorem w12 : runK n_grid_Grid_Resize [kR, .int .i64 2, .int .i64 2, zeroC.val] kM11 = some (.bool true, kM12) := got_of (x := kS12) k_all.2.2.2.2.2.2.1 k_all.2.2.2.2.2.1
theorem w13 : opSem (.lit 9 2 [(.string (bs [])), (.string (bs []))] [(0, (1, (.const (.string (bs [32, 32]))))), (1, (1, (.const (.string (bs [32, 32])))))]) [] kM12 = some (outV kL13, kM13) := gotO_eq (x := kL13) k_got.2.2.2.2.2.2.2.2.2.2.2
theorem w14 : runK n_law11_texts [kR, outV kL13] kM13 = some (.bool true, kM14) := got_of (x := kS14) k_all.2.2.2.2.2.2.2.2.1 k_all.2.2.2.2.2.2.2.1
theorem k_base : kM14.base = 0 := k_all.2.2.2.2.2.2.2.2.2.1
theorem k_s8 : kM8.size = 90 := k_all.2.2.2.2.2.2.2.2.2.2.1
theorem k_s10 : kM10.size = 94 := k_all.2.2.2.2.2.2.2.2.2.2.2
theorem one8 {M M' : Mem} (h : M'.get 90 = M.get 90) : KeepB [kM8.size] M M' := fun x hx _ => by rw [List.mem_singleton] at hx; rw [hx, k_s8]; exact h
theorem two8 {M M' : Mem} (h : M'.get 90 = M.get 90) (h' : M'.get 94 = M.get 94) : KeepB [kM8.size, kM10.size] M M' := fun x hx _ => by
 simp only [List.mem_cons, List.not_mem_nil, or_false] at hx
 rcases hx with hx | hx
 ·rw [hx, k_s8]; exact h
 ·rw [hx, k_s10]; exact h'
theorem k_keep : kM10.get 90 = some (.cells kC0 42 true) ∧ kM12.get 90 = some (.cells kC0 42 true) ∧ kM12.get 94 = some (.cells kC1 42 true) ∧ kM13.get 90 = some (.cells kC0 42 true) ∧ kM13.get 94 = some (.cells kC1 42 true) ∧ kM14.get 90 = some (.cells kC0 42 true) ∧ kM14.get 94 = some (.cells kC1 42 true) := by
 obtain ⟨m1, h⟩ := Prod.mk.inj kKeep_ok
 obtain ⟨m2, h⟩ := Prod.mk.inj h
 obtain ⟨m3, h⟩ := Prod.mk.inj h
 obtain ⟨m4, h⟩ := Prod.mk.inj h
 obtain ⟨m5, h⟩ := Prod.mk.inj h
 obtain ⟨m6, m7⟩ := Prod.mk.inj h
 exact ⟨m1, m2, m3, m4, m5, m6, m7⟩
theorem k_keep11 : kM11.get 90 = some (.cells kC0 42 true) ∧ kM11.get 94 = some (.cells kC1 42 true) ∧ kM9.get 90 = some (.cells kC0 42 true) := by
 obtain ⟨m1, h⟩ := Prod.mk.inj kKeep11_ok
 obtain ⟨m2, m3⟩ := Prod.mk.inj h
 exact ⟨m1, m2, m3⟩
theorem w_k10 : KeepB [kM8.size] kM9 kM10 := one8 (k_keep.1.trans k_keep11.2.2.symm)
theorem w_k12 : KeepB [kM8.size, kM10.size] kM11 kM12 := two8 (k_keep.2.1.trans k_keep11.1.symm) (k_keep.2.2.1.trans k_keep11.2.1.symm)
theorem w_k13 : KeepB [kM8.size, kM10.size] kM12 kM13 := two8 (k_keep.2.2.2.1.trans k_keep.2.1.symm) (k_keep.2.2.2.2.1.trans k_keep.2.2.1.symm)
theorem w_k14 : KeepB [kM8.size, kM10.size] kM13 kM14 := two8 (k_keep.2.2.2.2.2.1.trans k_keep.2.2.2.1.symm) (k_keep.2.2.2.2.2.2.trans k_keep.2.2.2.2.1.symm)
theorem kWalk : Walk kM1 kM2 kM3 kM4 kM5 kM6 kM7 kM8 kM10 kM12 kM13 kM14 (outV kS2) (outV kS3) (outV kS4) (outV kS5) (outV kL6) (outV kS8) (outV kE8) (outV kF8) (outV kS10) (outV kE10) (outV kF10) (outV kL13) :=
 ⟨w1, w2, w3, w4, w5, w6, w7, w8, w8x, w8y, ⟨k_cells.1, k_cells.2.1⟩, w10, w10x, w10y, ⟨k_cells.2.2.1, k_cells.2.2.2.1⟩, w12, w13, w14, w_k10, w_k12, w_k13, w_k14, k_cells.2.2.2.2.1, k_cells.2.2.2.2.2, k_base, k_s8, k_s10, (Prod.mk.inj kMem_ok).1, kGp⟩
theorem knownCalls (w : World) : Calls Try.prog 5 #[] w fun e w' => e = .returned (.bool true) ∧ Below w.heap.size w w' := by
 obtain ⟨n, r, M', h, q⟩ := gknown_walk kWalk
 subst q
 exact run_closed (by kernel_rfl) idf_ok funs_ok known_ok (args := []) rfl rfl h w
end Go.Proofs.Ytifemfnjoobiiaa.Run
