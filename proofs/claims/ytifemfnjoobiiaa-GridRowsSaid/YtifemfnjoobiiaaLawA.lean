/- The law's own functions: a grid of the document's, all rows of a grid, whether each is whole, a step. -/
import Derived.Test.YtifemfnjoobiiaaGridD
import Derived.Test.YtifemfnjoobiiaaRefG
import Derived.Test.YtifemfnjoobiiaaVcA
namespace Go.Proofs.Ytifemfnjoobiiaa.Run
open Go Go.RowKit
set_option linter.unusedVariables false
set_option linter.unusedSimpArgs false
section
variable {M₀ M : Mem} {b rb C : Nat} {G : Gd} {Q : Value → Mem → Prop}
abbrev ofI (M : Mem) (G : Gd) (C : Nat) (gv : Value) (b rb b1 : Nat) : Nat → LS → Prop := fun k s => ∃ (i : Nat) (M' : Mem), s = law11_of_l1_s (.pointer (some ⟨b, 0, none⟩)) (.int .i64 i) b1 gv [] M' ∧ Ext M M' ∧ b1 < M'.size ∧ b1 ≠ rb ∧ Gp M M' b rb C (G.take i ++ List.replicate (G.length - i) (List.replicate C zeroC)) ∧ i ≤ G.length ∧ k = G.length - i
theorem of_W (hM : M.base ≤ M.size) {gv : Value} (h : Gr M gv G) (hC : ∀ L ∈ G, L.length = C) (c1 : 1 ≤ C) (c2 : C ≤ 512) (n1 : 1 ≤ G.length) (n2 : G.length ≤ 512) (q : ∀ M' b rb, Ext M M' → Gp M M' b rb C G → Q (.pointer (some ⟨b, 0, none⟩)) M') :
  W funs known (.func (.func n_law11_of) #[] #[]) [.agg #[gv]] M Q := by
 obtain ⟨a, cap, hgv⟩ := h.shape
 rw [hgv]
 refine law11_of_wp hM ⟨rfl, fun b1 M2 hb1 hM2 => ?_⟩
 rw [← hgv]
 have e2 : Ext M M2 := Ext.push' hM2
 have s2 : M2.size = M.size + 1 := by rw [hM2]; rfl
 have h2 := h.ext e2
 obtain ⟨L0, hL0⟩ : ∃ L0, G[0]? = some L0 := ⟨_, List.getElem?_eq_getElem (by omega)⟩
 refine step_lenG h2 (s_eqF (by omega) (wpIf.ff (step_lenG h2 (rdG (i := 0) h2 (by omega) hL0 fun _ x sx => step_lenS sx ⟨zeroC.val, rfl, ?_⟩))))
 rw [hC L0 (List.mem_of_getElem? hL0)]
 have hmay : mayB (G.length : Int) (C : Int) = true := decide_eq_true ⟨by omega, by omega, by omega, by omega⟩
 refine gnew_W (e2.ok hM) (fun hm => by rw [hmay] at hm; cases hm) fun _ M11 b rb e11 h11 => ⟨e11.keep _, ?_⟩
 rw [Int.toNat_natCast, Int.toNat_natCast] at h11
 have e011 := e2.trans e11
 have f11 := h11.facts
 have s11 := e11.size
 refine ⟨law11_of_l1_m, ofI M G C gv b rb b1, ⟨G.length, 0, M11, rfl, e011, by omega, by omega, ?_, Nat.zero_le _, rfl⟩, ?_⟩
 ·exact h11.old e2
 rintro k s ⟨i, M', rfl, eM, lb1, nb1, hG, hi, rfl⟩
 have hM' := h.ext eM
 refine law11_of_l1_wp (I := ofI M G C gv b rb b1) (step_lenG hM' (step_lss (wpIf.dec (fun g1 => ?_) (fun g1 => ?_))))
 ·obtain ⟨L, hL⟩ : ∃ L, G[i]? = some L := ⟨_, List.getElem?_eq_getElem (by omega)⟩
  have hLC := hC L (List.mem_of_getElem? hL)
  refine rdG hM' (by omega) (by rw [Int.toNat_natCast]; exact hL) fun _ x sx => gset_W eM hM hG sx (by omega) fun M6 t6 h6 => ⟨fun y hy hlt => t6.get y hlt (by rw [List.mem_singleton] at hy; omega), step_add (by omega) (by omega) ⟨G.length - (i + 1), by omega, i + 1, M6, rfl, ?_, by have := t6.size; omega, nb1, ?_, by omega, rfl⟩⟩
  ·have f := hG.facts
   exact ⟨t6.base.trans eM.base, Nat.le_trans eM.size t6.size, fun c hc => (t6.get c (by have := eM.size; omega) (by omega)).trans (eM.get c hc)⟩
  ·have : setG (G.take i ++ List.replicate (G.length - i) (List.replicate C zeroC)) C (i : Int) L = G.take (i + 1) ++ List.replicate (G.length - (i + 1)) (List.replicate C zeroC) := by
    unfold setG
    obtain ⟨p1, p2⟩ := List.getElem?_eq_some_iff.1 hL
    rw [if_pos ⟨by omega, hLC⟩, Int.toNat_natCast, List.set_append_right _ _ (by rw [List.length_take]; omega), List.length_take, Nat.min_eq_left hi, Nat.sub_self, show G.length - i = (G.length - (i + 1)) + 1 by omega, List.replicate_succ, List.set_cons_zero, List.take_succ_eq_append_getElem p1, p2, List.append_assoc]
    rfl
   rw [← this]; exact h6
 ·have : i = G.length := by omega
  subst this
  rw [List.take_length, Nat.sub_self, List.replicate_zero, List.append_nil] at hG
  exact blockK.hit (law11_of_c0_wp (q M' b rb eM hG))
abbrev roI (M : Mem) (G : Gd) (b : Nat) : Nat → LS → Prop := fun k s => ∃ (i : Nat) (M' : Mem) (v : Value), s = law11_rows_l1_s (.pointer (some ⟨b, 0, none⟩)) v (.int .i64 G.length) (.int .i64 i) [] M' ∧ Ext M M' ∧ GrN M M' v (G.take i) ∧ i ≤ G.length ∧ k = G.length - i
theorem rows_W (e : Ext M₀ M) (hb0 : M₀.base ≤ M₀.size) (h : Gp M₀ M b rb C G) (q : ∀ M' v, Ext M M' → GrN M M' v G → Q v M') : W funs known (.func (.func n_law11_rows) #[] #[]) [.pointer (some ⟨b, 0, none⟩)] M Q := by
 have hM := e.ok hb0
 have hf := h.facts
 refine law11_rows_wp hM (size_W hM h ⟨_, rfl, _, rfl, ?_⟩)
 refine ⟨law11_rows_l1_m, roI M G b, ⟨G.length, 0, M, .slice none 0 0, rfl, Ext.refl _, ⟨[], .inr ⟨rfl, rfl⟩, by simp, rfl⟩, Nat.zero_le _, rfl⟩, ?_⟩
 rintro k s ⟨i, M', v, rfl, eM, nM, hi, rfl⟩
 refine law11_rows_l1_wp (I := roI M G b) (step_lss (wpIf.dec (fun g1 => ?_) (fun g1 => ?_)))
 ·obtain ⟨L, hL⟩ : ∃ L, G[i]? = some L := ⟨_, List.getElem?_eq_getElem (by omega)⟩
  refine grow_row_W (eM.ok hM) (h.ext eM) fun M3 x e3 n3 => ?_
  rw [rowG_some (by omega) (by rw [Int.toNat_natCast]; exact hL)] at n3
  obtain ⟨l, M5, hl, e5, v6, M7, ha, e7, g7, _⟩ := appG (bytes := 24) (z := .slice none 0 0) (eM.trans e3) hM (nM.ext e3) (n3.old eM) (by rw [List.length_take]; omega) (by decide)
  refine ⟨l, M5, hl, v6, M7, ha, step_add (by omega) (by omega) ⟨G.length - (i + 1), by omega, i + 1, M7, v6, rfl, e7, ?_, by omega, rfl⟩⟩
  obtain ⟨p1, p2⟩ := List.getElem?_eq_some_iff.1 hL
  rw [List.take_succ_eq_append_getElem p1, p2]; exact g7
 ·have : i = G.length := by omega
  subst this
  rw [List.take_length] at nM
  exact blockK.hit (law11_rows_c0_wp (q M' v eM nM))
def actG (G : Gd) (C : Nat) (a : Ac) : Gd :=
 if a.kind = 0 ∨ a.kind = 1 then putG G C a.r a.c a.cell (decide (a.kind = 1)) else if a.kind = 2 then markG G C a.r a.c a.mark a.cell.label
 else if a.kind = 3 then insertG G C a.r a.c a.n a.cell else if a.kind = 4 then deleteG G C a.r a.c a.n a.cell else eraseG G a.r a.c a.n a.cell
def doesF (s : Sp) (G : Gd) (C : Nat) : Gd × Nat × Gd :=
 if s.what % 10 = 6 ∨ s.what % 10 = 7 then ((scrollG (decide (s.what % 10 = 6)) G C (regionF s G.length).1 (regionF s G.length).2.1 (regionF s G.length).2.2 (blankS s)).1, C, (scrollG (decide (s.what % 10 = 6)) G C (regionF s G.length).1 (regionF s G.length).2.1 (regionF s G.length).2.2 (blankS s)).2)
 else if s.what % 10 = 8 then (raiseG G (blankS s).label, C, [])
 else if s.what % 10 = 9 then (if mayB (s.n % 12) (s.m % 24) then (resizeG G (s.n % 12).toNat (s.m % 24).toNat (blankS s), (s.m % 24).toNat, []) else (G, C, []))
 else (actG G C (actF s G.length C), C, [])
theorem region_in {s : Sp} (hs : s.ok) {R : Int} (hR : 0 < R ∧ R ≤ 2 ^ 30) : (regionF s R).1 ≤ 2 ^ 40 ∧ (regionF s R).2.1 ≤ 2 ^ 40 := by
 obtain ⟨⟨a1, a2⟩, ⟨b1', b2⟩, ⟨c1, c2⟩, ⟨d1, d2⟩, ⟨m1, m2⟩, _⟩ := hs
 have r2 := Int.emod_lt_of_pos s.row (show 0 < R by omega)
 have r4 := Int.emod_lt_of_pos s.m (show 0 < R - s.row % R by omega)
 unfold regionF
 split
 ·exact ⟨by show s.row - 2 ≤ _; omega, by show s.m - 2 ≤ _; omega⟩
 ·exact ⟨by show s.row % R ≤ _; omega, by show s.row % R + s.m % (R - s.row % R) ≤ _; omega⟩
set_option maxHeartbeats 2000000 in
theorem does_W (e : Ext M₀ M) (hb0 : M₀.base ≤ M₀.size) (h : Gp M₀ M b rb C G) {s : Sp} (hs : s.ok)
  (q : ∀ M' v rb', Chg b rb M M' → (rb' = rb ∨ M.size ≤ rb') → Went M₀ M M' b rb' (doesF s G C).2.1 (doesF s G C).1 v (doesF s G C).2.2 → Q v M') :
  W funs known (.func (.func n_law11_does) #[] #[]) [s.val, .pointer (some ⟨b, 0, none⟩)] M Q := by
 have hM := e.ok hb0
 obtain ⟨hC, c1, c2, n1, n2, hbm, hrm, hb, hr, hne⟩ := h.facts
 have hs' := hs
 obtain ⟨⟨a1, a2⟩, ⟨b1', b2⟩, ⟨cc1, cc2⟩, ⟨d1, d2⟩, ⟨m1, m2⟩, hcell⟩ := hs
 have hRl : (0 : Int) < G.length ∧ (G.length : Int) ≤ 2 ^ 30 := ⟨by omega, by omega⟩
 have hCl : (0 : Int) < C ∧ (C : Int) ≤ 2 ^ 30 := ⟨by omega, by omega⟩
 refine law11_does_wp hM ⟨rfl, fun b1 M2 hb1 hM2 => ?_⟩
 have e2 : Ext M M2 := Ext.push' hM2
 have s2 : M2.size = M.size + 1 := by rw [hM2]; rfl
 have h2 := h.ext e2
 have e02 := e.trans e2
 have hM2' := e2.ok hM
 have kb : ∀ {N N' : Mem}, Ext M2 N → Chg b rb N N' → KeepB [b1] N N' := fun eN t y hy hlt => t.get y hlt (by rw [List.mem_singleton] at hy; omega)
 refine size_W hM2' h2 ⟨KeepB.refl _ _, _, rfl, _, rfl, s_eqF (by omega) (wpIf.ff (step_rem8 (by decide) a1 ?_))⟩
 have acts : ¬ (s.what % 10 = 6 ∨ s.what % 10 = 7) → s.what % 10 ≠ 8 → s.what % 10 ≠ 9 → doesF s G C = (actG G C (actF s G.length C), C, []) := fun h1 h2 h3 => by
  unfold doesF; rw [if_neg h1, if_neg h2, if_neg h3]
 by_cases k6 : s.what % 10 = 6
 ·have hd : doesF s G C = ((scrollG true G C (regionF s G.length).1 (regionF s G.length).2.1 (regionF s G.length).2.2 (blankS s)).1, C, (scrollG true G C (regionF s G.length).1 (regionF s G.length).2.1 (regionF s G.length).2.2 (blankS s)).2) := by
   unfold doesF; rw [if_pos (.inl k6), decide_eq_true k6]
  rw [hd] at q
  refine s_eqT k6 (wpIf.tt (law11_does_c1_wp (wpIf.tt (region_W hM2' hs' hRl fun M3 e3 => ⟨e3.keep _, _, rfl, _, rfl, _, rfl, step_rem8 (by decide) a1 (s_eqT k6 (wpIf.tt (sblank_W (e3.ok hM2') hs' fun M9 e9 => ⟨e9.keep _, ?_⟩)))⟩))))
  have e29 := e3.trans e9
  exact up_W (e02.trans e29) hb0 (h2.ext e29) (region_in hs' hRl).1 (region_in hs' hRl).2 fun v M' t' h' => ⟨kb e29 t'.chg, q M' v rb (((e2.trans e29).touch _).trans t'.chg) (.inl rfl) (h'.old (e2.trans e29))⟩
 by_cases k7 : s.what % 10 = 7
 ·have hd : doesF s G C = ((scrollG false G C (regionF s G.length).1 (regionF s G.length).2.1 (regionF s G.length).2.2 (blankS s)).1, C, (scrollG false G C (regionF s G.length).1 (regionF s G.length).2.1 (regionF s G.length).2.2 (blankS s)).2) := by
   unfold doesF; rw [if_pos (.inr k7), decide_eq_false k6]
  rw [hd] at q
  refine s_eqF k6 (wpIf.ff (s_eqT k7 (law11_does_c1_wp (wpIf.tt (region_W hM2' hs' hRl fun M3 e3 => ⟨e3.keep _, _, rfl, _, rfl, _, rfl, step_rem8 (by decide) a1 (s_eqF k6 (wpIf.ff (sblank_W (e3.ok hM2') hs' fun M9 e9 => ⟨e9.keep _, ?_⟩)))⟩)))))
  have e29 := e3.trans e9
  exact down_W (e02.trans e29) hb0 (h2.ext e29) (region_in hs' hRl).1 (region_in hs' hRl).2 fun v M' t' h' => ⟨kb e29 t'.chg, q M' v rb (((e2.trans e29).touch _).trans t'.chg) (.inl rfl) (h'.old (e2.trans e29))⟩
 refine s_eqF k6 (wpIf.ff (s_eqF k7 (law11_does_c1_wp (wpIf.ff ?_))))
 have k67 : ¬ (s.what % 10 = 6 ∨ s.what % 10 = 7) := fun h => h.elim k6 k7
 by_cases k8 : s.what % 10 = 8
 ·have hd : doesF s G C = (raiseG G (blankS s).label, C, []) := by unfold doesF; rw [if_neg k67, if_pos k8]
  rw [hd] at q
  refine s_eqT k8 (wpIf.tt (sblank_W hM2' hs' fun M18 e18 => ⟨e18.keep _, .int .u8 (blankS s).label, rfl, graise_W (e02.trans e18) hb0 (h2.ext e18) fun M' t' h' => ⟨kb e18 t'.chg, q M' _ rb (((e2.trans e18).touch _).trans t'.chg) (.inl rfl) (Went.none (Nat.le_trans (e2.trans e18).size t'.size) h')⟩⟩))
 refine s_eqF k8 (wpIf.ff ?_)
 by_cases k9 : s.what % 10 = 9
 ·have hd : doesF s G C = (if mayB (s.n % 12) (s.m % 24) then (resizeG G (s.n % 12).toNat (s.m % 24).toNat (blankS s), (s.m % 24).toNat, []) else (G, C, [])) := by unfold doesF; rw [if_neg k67, if_neg k8, if_pos k9]
  rw [hd] at q
  refine s_eqT k9 (wpIf.tt (step_rem8 (by decide) d1 (step_conv (i64_ok (by omega) (by omega)) (step_rem8 (by decide) m1 (step_conv (i64_ok (by omega) (by omega)) (sblank_W (freeze_ok M2) hs' fun M28 e28 => ⟨e28.keepF _, ?_⟩))))))
  have e28' := e28.thaw
  generalize M28.thaw M2.base = R at e28' ⊢
  refine gresize_W (e02.trans e28') hb0 (h2.ext e28') (fun hm M' e' => ⟨e'.keep _, ?_⟩) (fun hm M' rb' t' hrb' h' => ⟨kb e28' t', ?_⟩)
  ·rw [hm] at q
   exact q M' _ rb (((e2.trans e28').trans e').touch _) (.inl rfl) (Went.none ((e2.trans e28').trans e').size ((h2.ext e28').ext e'))
  ·rw [hm] at q
   have := e2.size
   have := e28'.size
   exact q M' _ rb' (((e2.trans e28').touch _).trans t') (hrb'.imp id fun h => by omega) (Went.none (Nat.le_trans (e2.trans e28').size t'.size) h')
 refine s_eqF k9 (wpIf.ff (law11_does_c0_wp (act_W hM2' hs' hRl hCl fun M4 e4 => ⟨e4.keep _, rfl, fun b3 M5 hb3 hM5 => ⟨⟨rfl, rfl, by show 0 + 19 ≤ 19; omega⟩, fun M6 hM6 => LGet.mk (v := .int .i64 (actF s G.length C).kind) rfl ?_⟩⟩)))
 have hkr : 0 ≤ (actF s G.length C).kind ∧ (actF s G.length C).kind ≤ 5 := by unfold actF; show 0 ≤ s.what % 6 ∧ s.what % 6 ≤ 5; omega
 rw [acts k67 k8 k9] at q
 generalize actF s G.length C = a at q hM6 hkr ⊢
 have e5 : Ext M4 M5 := Ext.push' hM5
 have s5 : M5.size = M4.size + 1 := by rw [hM5]; rfl
 have e26 : Ext M2 M6 := hM6 ▸ (e4.trans e5).set (by have := e4.size; omega) (by omega) _
 have s6 : M6.size = M5.size := by rw [hM6]; rfl
 have s4 := e4.size
 have eM6 := e2.trans e26
 have h6 := h2.ext e26
 have e06 := e02.trans e26
 have kb2 : ∀ {N' : Mem}, Chg b rb M6 N' → KeepB [b1, b3] M6 N' := fun t y hy hlt => t.get y hlt (by
  simp only [List.mem_cons, List.not_mem_nil, or_false] at hy
  omega)
 have fin : ∀ {G' : Gd} {M' : Mem}, actG G C a = G' → Chr rb M6 M' → Gp M₀ M' b rb C G' → KeepB [b1, b3] M6 M' ∧ Q (.slice none 0 0) M' := fun {G' M'} hg t' h' => by
  subst hg
  exact ⟨kb2 t'.chg, q M' _ rb ((eM6.touch _).trans t'.chg) (.inl rfl) (Went.none (Nat.le_trans eM6.size t'.size) h')⟩
 by_cases p0 : a.kind = 0
 ·have hg : actG G C a = putG G C a.r a.c a.cell false := by unfold actG; rw [if_pos (.inl p0), decide_eq_false (by omega)]
  exact s_eqT p0 (wpIf.tt (law11_does_c2_wp (wpIf.tt (LGetN.as (posV a.r a.c) (by show 1 + 2 ≤ 19; omega) rfl (LGetN.as a.cell.val (by show 4 + 14 ≤ 19; omega) rfl (LGet.mk (v := .int .i64 a.kind) rfl (s_eqF (by omega) (gput_W e06 hb0 h6 fun M' t' h' => fin hg t' h'))))))))
 by_cases p1 : a.kind = 1
 ·have hg : actG G C a = putG G C a.r a.c a.cell true := by unfold actG; rw [if_pos (.inr p1), decide_eq_true p1]
  exact s_eqF p0 (wpIf.ff (s_eqT p1 (law11_does_c2_wp (wpIf.tt (LGetN.as (posV a.r a.c) (by show 1 + 2 ≤ 19; omega) rfl (LGetN.as a.cell.val (by show 4 + 14 ≤ 19; omega) rfl (LGet.mk (v := .int .i64 a.kind) rfl (s_eqT p1 (gput_W e06 hb0 h6 fun M' t' h' => fin hg t' h')))))))))
 refine s_eqF p0 (wpIf.ff (s_eqF p1 (law11_does_c2_wp (wpIf.ff ?_))))
 have p01 : ¬ (a.kind = 0 ∨ a.kind = 1) := fun h => h.elim p0 p1
 by_cases p2 : a.kind = 2
 ·have hg : actG G C a = markG G C a.r a.c a.mark a.cell.label := by unfold actG; rw [if_neg p01, if_pos p2]
  exact s_eqT p2 (wpIf.tt (LGetN.as (posV a.r a.c) (by show 1 + 2 ≤ 19; omega) rfl (LGet.mk (v := .int .i32 a.mark) rfl (LGet.mk (v := .int .u8 a.cell.label) rfl (gmark_W e06 hb0 h6 fun M' t' h' => fin hg t' h')))))
 refine s_eqF p2 (wpIf.ff ?_)
 by_cases p3 : a.kind = 3
 ·have hg : actG G C a = insertG G C a.r a.c a.n a.cell := by unfold actG; rw [if_neg p01, if_neg p2, if_pos p3]
  exact s_eqT p3 (wpIf.tt (LGetN.as (posV a.r a.c) (by show 1 + 2 ≤ 19; omega) rfl (LGet.mk (v := .int .i64 a.n) rfl (LGetN.as a.cell.val (by show 4 + 14 ≤ 19; omega) rfl (ginsert_W e06 hb0 h6 fun M' t' h' => fin hg t' h')))))
 refine s_eqF p3 (wpIf.ff ?_)
 by_cases p4 : a.kind = 4
 ·have hg : actG G C a = deleteG G C a.r a.c a.n a.cell := by unfold actG; rw [if_neg p01, if_neg p2, if_neg p3, if_pos p4]
  exact s_eqT p4 (wpIf.tt (LGetN.as (posV a.r a.c) (by show 1 + 2 ≤ 19; omega) rfl (LGet.mk (v := .int .i64 a.n) rfl (LGetN.as a.cell.val (by show 4 + 14 ≤ 19; omega) rfl (gdelete_W e06 hb0 h6 fun M' t' h' => fin hg t' h')))))
 have hg : actG G C a = eraseG G a.r a.c a.n a.cell := by unfold actG; rw [if_neg p01, if_neg p2, if_neg p3, if_neg p4]
 exact s_eqF p4 (wpIf.ff (LGet.mk (v := .int .i64 a.r) rfl (LGet.mk (v := .int .i64 a.c) rfl (LGet.mk (v := .int .i64 a.n) rfl (LGetN.as a.cell.val (by show 4 + 14 ≤ 19; omega) rfl (gerase_W e06 hb0 h6 fun M' t' h' => fin hg t' h'))))))
end
end Go.Proofs.Ytifemfnjoobiiaa.Run
