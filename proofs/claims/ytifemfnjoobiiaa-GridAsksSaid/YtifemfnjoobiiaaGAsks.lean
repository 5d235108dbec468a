/- The law GridAsks, over this session's own interpreter. -/
import Derived.Test.YtifemfnjoobiiaaGridP
import Derived.Test.YtifemfnjoobiiaaVcLA
namespace Go.Proofs.Ytifemfnjoobiiaa.Run
open Go Go.RowKit
set_option linter.unusedVariables false
set_option linter.unusedSimpArgs false
set_option maxRecDepth 100000
section
variable {M₀ M : Mem} {Q : Value → Mem → Prop} {b rb C : Nat} {G : Gd}
theorem Gp.freeze (h : Gp M₀ M b rb C G) : Gp M₀ M.freeze b rb C G := by
 obtain ⟨P, sp, cap, rest, h1, h2⟩ := h
 exact ⟨P, sp, cap, rest, ⟨h1.hb, h1.hr, h1.gb, h1.gr, h1.cap, h1.rows, h1.cols, h1.c1, h1.c2, h1.n1, h1.n2⟩, h2⟩
theorem step_tmod {P : Value → Prop} {x y : Int} (hy : 0 < y) (p : P (.int .i64 (x.tmod y))) : ∃ v, binV .rem 0 [] (.int .i64 x) (.int .i64 y) = some v ∧ P v := by
 refine ⟨.int .i64 (x.tmod y), ?_, p⟩
 have h1 : y ≠ 0 := by omega
 simp only [binV, isShift, Bool.false_eq_true, if_false, if_true, intOp, if_neg h1]
theorem neqB_same {a b : Bool} (h : a = b) : binV .neq 1 [] (.bool a) (.bool b) = some (.bool false) := by subst h; cases a <;> rfl
theorem eqlB_not (a : Bool) : binV .eql 1 [] (.bool (!a)) (.bool a) = some (.bool false) := by cases a <;> rfl
theorem rows_W' (hM : M.base ≤ M.size) (h : Gp M₀ M b rb C G) (q : ∀ M' v, Ext M M' → GrN M M' v G → Q v M') : W funs known (.func (.func n_law11_rows) #[] #[]) [.pointer (some ⟨b, 0, none⟩)] M Q := by
 have hf := h.facts
 refine law11_rows_wp hM (size_W hM h ⟨_, rfl, _, rfl, ?_⟩)
 refine ⟨law11_rows_l1_m, roI M G b, ⟨G.length, 0, M, .slice none 0 0, rfl, Ext.refl _, ⟨[], .inr ⟨rfl, rfl⟩, by simp, rfl⟩, Nat.zero_le _, rfl⟩, ?_⟩
 rintro k s ⟨i, M', v, rfl, eM, nM, hi, rfl⟩
 refine law11_rows_l1_wp (I := roI M G b) (step_lss (wpIf.dec (fun g1 => ?_) (fun g1 => ?_)))
 ·obtain ⟨L, hL⟩ : ∃ L, G[i]? = some L := ⟨_, List.getElem?_eq_getElem (by omega)⟩
  refine grow_row_W (eM.ok hM) (h.ext eM) fun M3 x e3 n3 => ?_
  rw [rowG_some (by omega) (by rw [Int.toNat_natCast]; exact hL)] at n3
  obtain ⟨l, M5, hl, e5, v6, M7, ha, e7, g7, _⟩ := appG (bytes := 24) (z := .slice none 0 0) (eM.trans e3) hM (nM.ext e3) (n3.old eM) (by rw [List.length_take]; omega) (by decide)
  refine ⟨l, M5, hl, v6, M7, ha, step_add (by omega) (by omega) ⟨G.length - (i + 1), by omega, i + 1, M7, v6, rfl, e7, ?_, by omega, rfl⟩⟩
  obtain ⟨p1, p2⟩ := List.getElem?_eq_some_iff.1 hL
  rw [List.take_succ_eq_append_getElem p1, p2]; exact g7
 ·have : i = G.length := by omega
  subst this
  rw [List.take_length] at nM
  exact blockK.hit (law11_rows_c0_wp (q M' v eM nM))
def Small (M : Mem) (v : Value) (G : Gd) : Prop := (v = .pointer none ∧ G = []) ∨ ∃ (M₀ : Mem) (b rb C : Nat), v = .pointer (some ⟨b, 0, none⟩) ∧ Gp M₀ M b rb C G
theorem Small.ext {M' : Mem} {v : Value} (e : Ext M M') (h : Small M v G) : Small M' v G := h.imp id fun ⟨M₀, b, rb, C, h1, h2⟩ => ⟨M₀, b, rb, C, h1, h2.ext e⟩
theorem Small.freeze {v : Value} (h : Small M v G) : Small M.freeze v G := h.imp id fun ⟨M₀, b, rb, C, h1, h2⟩ => ⟨M₀, b, rb, C, h1, h2.freeze⟩
theorem rowsS_W (hM : M.base ≤ M.size) {v : Value} (h : Small M v G) (q : ∀ M' v, Ext M M' → GrN M M' v G → Q v M') : W funs known (.func (.func n_law11_rows) #[] #[]) [v] M Q := by
 rcases h with ⟨rfl, rfl⟩ | ⟨M₀, b, rb, C, rfl, h⟩
 ·refine law11_rows_wp hM (grid_Grid_Size_wp hM ⟨.bool true, rfl, wpIf.tt ⟨_, rfl, _, rfl, ?_⟩⟩)
  refine ⟨law11_rows_l1_m, fun k s => k = 0 ∧ s = law11_rows_l1_s (.pointer none) (.slice none 0 0) (.int .i64 0) (.int .i64 0) [] M, ⟨0, rfl, rfl⟩, ?_⟩
  rintro k s ⟨rfl, rfl⟩
  refine law11_rows_l1_wp (I := fun k s => k = 0 ∧ s = law11_rows_l1_s (.pointer none) (.slice none 0 0) (.int .i64 0) (.int .i64 0) [] M) (s_ltF (by omega) (wpIf.ff ?_))
  exact blockK.hit (law11_rows_c0_wp (q M _ (Ext.refl _) ⟨[], .inr ⟨rfl, rfl⟩, by simp, rfl⟩))
 ·exact rows_W' hM h q
theorem gnewS_W (hM : M.base ≤ M.size) {r c : Int} {z : Ce} (q : ∀ M' v, Ext M M' → Small M' v (newG r c z) → Q v M') : W funs known (.func (.func n_grid_New) #[] #[]) [.int .i64 r, .int .i64 c, z.val] M Q := by
 refine gnew_W hM (fun h M' e => q M' _ e (.inl ⟨rfl, by unfold newG; rw [h]; rfl⟩)) fun h M' b rb e g => q M' _ e (.inr ⟨M, b, rb, c.toNat, rfl, by unfold newG; rw [h]; exact g⟩)
theorem gnewN_W (hM : M.base ≤ M.size) {r c : Int} {z : Ce} (q : ∀ M' v, Ext M M' → binV .eql 3 [] v (.pointer none) = some (.bool (!mayB r c)) → Q v M') : W funs known (.func (.func n_grid_New) #[] #[]) [.int .i64 r, .int .i64 c, z.val] M Q := by
 refine gnew_W hM (fun h M' e => q M' _ e (by rw [h]; rfl)) fun h M' b rb e g => q M' _ e (by rw [h]; rfl)
theorem newG_small {r c : Int} {z : Ce} : (∀ L ∈ newG r c z, L.length ≤ 512) ∧ (newG r c z).length ≤ 512 := by
 unfold newG
 split
 ·rename_i h
  have h := of_decide_eq_true h
  refine ⟨fun L hL => ?_, by rw [List.length_replicate]; omega⟩
  rw [List.eq_of_mem_replicate hL, List.length_replicate]; omega
 ·exact ⟨by simp, by simp⟩
theorem takeC {v : Value} {L : List Ce} (h : Sl M v L) {i : Nat} (hi : i ≤ L.length) {j : IntKind} (N : Mem) : ∃ v', opSem (.sliceL 14 (.const v) none (some (.const (.int j i))) none) [] N = some (v', N) ∧ SlH M v' (L.take i) := by
 by_cases h0 : L = []
 ·subst h0
  refine step_to (P := fun v' => SlH M v' (([] : List Ce).take i)) h (by omega) (by simpa using hi) fun v' hs => ?_
  rw [List.take_nil] at hs ⊢
  rcases hs.shape with ⟨a, cap, rfl⟩ | ⟨n, rfl, _⟩
  ·exact .inl ⟨a, cap, rfl, Nat.zero_le _, .inl rfl⟩
  ·exact .inr ⟨rfl, n, rfl⟩
 ·obtain ⟨v', h1, h2⟩ := Sl.take (E := inferInstance) h hi h0 (j := j) N
  exact ⟨v', h1, .inl h2⟩
theorem set_same (hC : ∀ L ∈ G, L.length = C) (n1 : 1 ≤ G.length) (r : Int) (L : List Ce) : setR G r L = setG G C r L := by
 have : (G.getD 0 []).length = C := by
  rw [List.getD_eq_getElem?_getD, List.getElem?_eq_getElem (by omega), Option.getD_some]
  exact hC _ (List.getElem_mem _)
 unfold setR setG
 rw [this]
theorem rowG_pos (hC : ∀ L ∈ G, L.length = C) (c1 : 1 ≤ C) (r : Int) : (((rowG G r).length : Int) > 0) ↔ (0 ≤ r ∧ r < G.length) := by
 unfold rowG
 by_cases h0 : 0 ≤ r
 ·rw [if_pos h0, List.getD_eq_getElem?_getD]
  by_cases h1 : r.toNat < G.length
  ·rw [List.getElem?_eq_getElem h1, Option.getD_some]
   have := hC _ (List.getElem_mem h1)
   omega
  ·rw [List.getElem?_eq_none (by omega)]
   simp; omega
 ·rw [if_neg h0]; simp; omega
theorem cell_at (hC : ∀ L ∈ G, L.length = C) {r c : Int} (h : hasB G C r c = true) : ∃ L a, G[r.toNat]? = some L ∧ L[c.toNat]? = some a ∧ cellG G r c = a := by
 have h := of_decide_eq_true h
 have h1 : r.toNat < G.length := by omega
 have h2 : c.toNat < (G[r.toNat]'h1).length := by rw [hC _ (List.getElem_mem h1)]; omega
 refine ⟨_, _, List.getElem?_eq_getElem h1, List.getElem?_eq_getElem h2, ?_⟩
 unfold cellG
 rw [List.getD_eq_getElem?_getD, List.getD_eq_getElem?_getD, List.getElem?_eq_getElem h1, Option.getD_some, List.getElem?_eq_getElem h2]; rfl
def zQ : Ce := { zeroC with rune := 113 }
abbrev arrV (x0 x1 x2 x3 x4 x5 : Int) : Value := .agg #[.int .i64 x0, .int .i64 x1, .int .i64 x2, .int .i64 x3, .int .i64 x4, .int .i64 x5]
theorem pAt {x0 x1 x2 x3 x4 x5 : Int} {i : Nat} (hi : i < 3) : ∃ r c : Int, ∀ N, opSem (.idxA 3 (some 2) 2 (.const (arrV x0 x1 x2 x3 x4 x5)) (.const (.int .i64 i))) [] N = some (posV r c, N) := by
 match i, hi with
 | 0, _ => exact ⟨x0, x1, fun N => rfl⟩
 | 1, _ => exact ⟨x2, x3, fun N => rfl⟩
 | 2, _ => exact ⟨x4, x5, fun N => rfl⟩
abbrev gaI (Ma : Mem) (rv gp dv gv arr : Value) (c x0 x1 x2 : Int) (b1 b3 b7 : Nat) : Nat → LS → Prop := fun k st => ∃ (i : Nat) (N : Mem), st = law11_GridAsks_l2_s rv gp arr (.int .i64 i) b1 (.int .u8 c) dv b3 (.int .i64 x0) (.int .i64 x1) (.int .i64 x2) b7 gv [] N ∧ Ext Ma N ∧ i ≤ 3 ∧ k = 3 - i
set_option maxHeartbeats 4000000 in
theorem gasks_W (hM : M.base ≤ M.size) {c : Int} (hc : 0 ≤ c ∧ c ≤ 255) {dv : Value} {T : Lns} (h : Sl M dv T.row) (hok : LnsOK M T) {x0 x1 x2 : Int} {rv : Value} {Rw : List Ce} (hr : Sl M rv Rw) (q : ∀ M', Q (.bool true) M') :
  W funs known (.func (.func n_law11_GridAsks) #[] #[]) [.agg #[.int .u8 c, dv], .agg #[.int .i64 x0, .int .i64 x1, .int .i64 x2], rv] M Q := by
 obtain ⟨da, dcap, hdv⟩ := h.shape
 obtain ⟨ra, rcap, hrv⟩ := hr.shape
 rw [hdv, hrv]
 refine law11_GridAsks_wp hM ?_
 rw [← hdv, ← hrv]
 refine ⟨rfl, fun b1 M2 hb1 hM2 => ⟨rfl, fun b3 M4 hb3 hM4 => ?_⟩⟩
 have e2 : Ext M M2 := Ext.push' hM2
 have s2 : M2.size = M.size + 1 := by rw [hM2]; rfl
 have e4 : Ext M M4 := e2.trans (Ext.push' hM4)
 have s4 : M4.size = M2.size + 1 := by rw [hM4]; rfl
 refine draftG_W (e4.ok hM) hc (.inl (h.ext e4)) (hok.ext e4) fun M6 gv e6 n6 => ⟨e6.keep _, rfl, fun b7 M8 hb7 hM8 => ?_⟩
 have e46 := e6
 have e06 := e4.trans e6
 have s6 := e6.size
 have e8 : Ext M6 M8 := Ext.push' hM8
 have s8 : M8.size = M6.size + 1 := by rw [hM8]; rfl
 obtain ⟨ga, gcap, hgv⟩ := n6.gr.shape
 refine ⟨gv, by rw [hgv]; rfl, by rw [hgv]; rfl, by decide, fun M9 hM9 => ?_⟩
 have e9 : Ext M6 M9 := hM9 ▸ e8.set (by omega) (by omega) _
 have s9 : M9.size = M8.size := by rw [hM9]; rfl
 have e09 := e06.trans e9
 have k9 := e09.ok hM
 obtain ⟨_, hC1, hC2⟩ := colsD_in c hc
 have hrows := gridD_rows c T
 have n9 := n6.ext e9
 have hGC := gridD_cols hc T
 generalize gridD c T = G at n9 hrows hGC
 generalize colsD c = C at hC1 hC2 hGC
 have hb : b1 < M9.size ∧ b3 < M9.size ∧ b7 < M9.size := by omega
 refine of_W k9 n9.gr hGC hC1 (by omega) hrows.1 (by omega) fun M12 b rb e12 g12 => ⟨e12.keep _, ?_⟩
 have e0c := e09.trans e12
 have k12 := e0c.ok hM
 refine step_lenS hr (step_min ?_)
 obtain ⟨n, hn⟩ : ∃ n : Nat, (n : Int) = min (Rw.length : Int) 30 := ⟨min Rw.length 30, by omega⟩
 rw [← hn]
 obtain ⟨tv, htv, ht⟩ := takeC hr (i := n) (by omega) (j := .i64) M12
 have hLT : (Rw.take n).length ≤ 30 := by rw [List.length_take]; omega
 generalize Rw.take n = Rr at ht hLT
 refine ⟨tv, htv, ⟨by decide, by decide⟩, step_tmod (by decide) ⟨⟨by decide, by decide⟩, step_tmod (by decide) ⟨zQ.val, rfl, gnewS_W k12 fun M20 sv e20 sm => ⟨e20.keep _, ⟨by decide, by decide⟩, zeroC.val, rfl, gnewN_W (freeze_ok M20) fun M23 v22 e23 h22 => ⟨e23.keepF _, _, h22, ⟨by decide, by decide⟩, ?_⟩⟩⟩⟩⟩
 have e1220 := e12.trans e20
 have k20 := (e0c.trans e20).ok hM
 have e23' := e23.thaw
 have k23 := e23'.ok k20
 generalize M23.thaw M20.base = N23 at e23' k23 ⊢
 refine refmay_W k23 ⟨KeepB.refl _ _, .bool false, eqlB_not _, wpIf.ff ⟨⟨by decide, by decide⟩, zeroC.val, rfl, gnewN_W (freeze_ok N23) fun M30 v29 e30 h29 => ⟨e30.keepF _, _, h29, ⟨by decide, by decide⟩, ?_⟩⟩⟩
 have e30' := e30.thaw
 have k30 := e30'.ok k23
 generalize M30.thaw N23.base = N30 at e30' k30 ⊢
 refine refmay_W k30 ⟨KeepB.refl _ _, .bool false, eqlB_not _, wpIf.ff (rowsS_W (freeze_ok N30) ((sm.ext (e23'.trans e30')).freeze) fun M36 sr e36 n36 => ⟨e36.keepF _, ⟨by decide, by decide⟩, step_tmod (by decide) ⟨⟨by decide, by decide⟩, step_tmod (by decide) ?_⟩⟩)⟩
 have e36' := e36.thaw
 have k36 := e36'.ok k30
 have n36' : Gr (M36.thaw N30.base) sr (newG (x0.tmod 40) (x1.tmod 40) zQ) := n36.gr
 generalize M36.thaw N30.base = N36 at e36' k36 n36' ⊢
 refine ⟨zQ.val, rfl, refgnew_W k36 (by have := Int.tmod_lt_of_pos x0 (show (0 : Int) < 40 by decide); omega) fun M41 rv40 e41 n41 => ⟨e41.keep _, rv40, rfl, ?_⟩⟩
 have hsm := newG_small (r := x0.tmod 40) (c := x1.tmod 40) (z := zQ)
 have k41 := e41.ok k36
 refine rsame_W k41 (n36'.ext e41) n41.gr (fun L hL => by have := hsm.1 L hL; omega) (by omega) ⟨KeepB.refl _ _, ?_⟩
 rw [decide_eq_true rfl]
 refine ⟨_, rfl, wpIf.ff ?_⟩
 have eMa : Ext M12 M41 := e20.trans (e23'.trans (e30'.trans (e36'.trans e41)))
 have e9a := e12.trans eMa
 have e0a := e0c.trans eMa
 have ga := g12.ext eMa
 have gra := n9.gr.ext e9a
 have rta := ht.ext e0a
 have sz := e9a.size
 clear n36' n41 n36 sm hsm
 refine law11_GridAsks_c0_wp ⟨⟨by decide, by decide⟩, ⟨by decide, by decide⟩, _, rfl, ⟨by decide, by decide⟩, step_tmod (by decide) ⟨⟨by decide, by decide⟩, step_tmod (by decide) ⟨_, rfl, ⟨by decide, by decide⟩, step_tmod (by decide) ⟨_, rfl, _, rfl, ?_⟩⟩⟩⟩
 refine ⟨law11_GridAsks_l2_m, gaI M41 tv (.pointer (some ⟨b, 0, none⟩)) dv gv (arrV x0 x1 (x0.tmod 10) (x1.tmod 24) 0 (x2.tmod 20)) c x0 x1 x2 b1 b3 b7, ⟨3, 0, M41, rfl, Ext.refl _, by omega, rfl⟩, ?_⟩
 rintro k st ⟨i, N, rfl, eN, hi, rfl⟩
 have kN := eN.ok k41
 have ltN : b1 < N.size ∧ b3 < N.size ∧ b7 < N.size := by have := eN.size; omega
 refine law11_GridAsks_l2_wp (I := gaI M41 tv (.pointer (some ⟨b, 0, none⟩)) dv gv (arrV x0 x1 (x0.tmod 10) (x1.tmod 24) 0 (x2.tmod 20)) c x0 x1 x2 b1 b3 b7) (step_lss (wpIf.dec (fun i1 => ?_) (fun i1 => ?_)))
 rotate_left
 ·exact blockK.hit (law11_GridAsks_c1_wp (W_known (r := .bool true) rfl ⟨KeepB.refl _ _, q _⟩))
 obtain ⟨r, cc, hp⟩ := pAt (x0 := x0) (x1 := x1) (x2 := x0.tmod 10) (x3 := x1.tmod 24) (x4 := 0) (x5 := x2.tmod 20) (i := i) (by omega)
 refine ⟨posV r cc, hp N, rfl, fun b3' M4' hb3' hM4' => ⟨⟨rfl, rfl, by decide⟩, fun M5 hM5 => LGetN.as (posV r cc) (by exact Nat.le_refl 2) rfl ?_⟩⟩
 have eN4 : Ext N M4' := Ext.push' hM4'
 have sN4 : M4'.size = N.size + 1 := by rw [hM4']; rfl
 have eN5 : Ext N M5 := hM5 ▸ eN4.set (by omega) (by omega) _
 have sN5 : M5.size = M4'.size := by rw [hM5]; rfl
 have k5 := eN5.ok kN
 refine gat_W k5 (ga.ext (eN.trans eN5)) fun M8' eN8 => ⟨eN8.keep _, _, rfl, _, rfl, rfl, fun b11 M12' hb11 hM12' => ⟨⟨rfl, rfl, by decide⟩, fun M13 hM13 => ⟨rfl, fun b14 M15 hb14 hM15 => LGetN.as (posV r cc) (by exact Nat.le_refl 2) rfl ?_⟩⟩⟩
 have e812 : Ext M8' M12' := Ext.push' hM12'
 have s812 : M12'.size = M8'.size + 1 := by rw [hM12']; rfl
 have s58 := eN8.size
 have e813 : Ext M8' M13 := hM13 ▸ e812.set (by omega) (by omega) _
 have s13 : M13.size = M12'.size := by rw [hM13]; rfl
 have e1315 : Ext M13 M15 := Ext.push' hM15
 have s15 : M15.size = M13.size + 1 := by rw [hM15]; rfl
 have eN15 : Ext N M15 := eN5.trans (eN8.trans (e813.trans e1315))
 have k15 := eN15.ok kN
 refine refIs_W k15 (gra.ext (eN.trans eN15)) hGC fun M18 e18 => ⟨e18.keep _, ?_⟩
 have s18 := e18.size
 obtain ⟨w, hw⟩ : ∃ w : Ce, w = if hasB G C r cc = true then cellG G r cc else zeroC := ⟨_, rfl⟩
 rw [← hw]
 have eN18 := eN15.trans e18
 have gv18 := gra.ext (eN.trans eN18)
 cases hh : hasB G C r cc with
 | true =>
  obtain ⟨L, a, hL, ha, hca⟩ := cell_at hGC hh
  have hbb : 0 ≤ r ∧ r < G.length ∧ 0 ≤ cc ∧ cc < C := of_decide_eq_true hh
  have hwa : w = a := by rw [hw, hh, if_pos rfl, hca]
  refine wpIf.tt (LGet.mk (v := .int .i64 r) rfl (rdG gv18 hbb.1 hL fun p x sx => LGet.mk (v := .int .i64 cc) rfl (rd sx hbb.2.2.1 ha fun _ => ⟨⟨rfl, rfl, by decide⟩, fun R hR => ?_⟩)))
  have eR : Ext N R := hR ▸ eN18.set (by omega) (by omega) _
  have sR : M15.size ≤ R.size := by rw [hR]; exact s18
  clear hR
  refine law11_GridAsks_c3_wp (LGetN.as (posV r cc) (by exact Nat.le_refl 2) rfl (refIs_W (eR.ok kN) (gra.ext (eN.trans eR)) hGC fun M3 e3 => ⟨e3.keep _, .bool false, neqB_same hh.symm, wpIf.ff (LGetN.as w.val (by exact Nat.le_refl 14) rfl (LGetN.as a.val (by exact Nat.le_refl 14) rfl (step_neqCe ?_)))⟩))
  rw [decide_eq_false (fun hne => hne hwa)]
  have eN3 := eR.trans e3
  have k3 := eN3.ok kN
  refine wpIf.ff (LGet.mk (v := .int .i64 r) rfl (grow_row_W (freeze_ok M3) ((ga.ext (eN.trans eN3)).freeze) fun M10 v9 e10 n10 => ⟨e10.keepF _, step_lenS n10.sl (step_gtr (LGet.mk (v := .int .i64 r) rfl (step_geq (wpIf.dec (fun g0 => ?_) (fun g0 => ?_)))))⟩))
  ·refine LGet.mk (v := .int .i64 r) rfl (step_lenG gra (step_lss ⟨.bool false, neqB_same (decide_eq_decide.2 ((rowG_pos hGC hC1 r).trans ⟨fun h => h.2, fun h => ⟨g0, h⟩⟩)), wpIf.ff ?_⟩))
   have eR10 := eN3.trans e10.thaw
   have s10 := (e3.trans e10.thaw).size
   generalize M10.thaw M3.base = R10 at eR10 s10 ⊢
   refine law11_GridAsks_c4_wp (gcopy_W (e9a.trans (eN.trans eR10)) k9 (ga.ext (eN.trans eR10)) fun Mc b' rb' ec gc hb' hrb' => ⟨ec.keep _, LGet.mk (v := .int .i64 r) rfl (gsetH_W ((e9a.trans (eN.trans eR10)).trans ec) k9 gc (rta.ext ((eN.trans eR10).trans ec)) (by omega) fun Ms ts gs => ⟨(ts.chg (b := b')).keep fun y hy => ?_, ?_⟩)⟩)
   ·simp only [List.mem_cons, List.not_mem_nil, or_false] at hy
    omega
   have eMs : Ext M41 Ms := (ts.chg (b := b')).ext ((eN.trans eR10).trans ec) (by have := (eN.trans eR10).size; omega) (by have := (eN.trans eR10).size; omega)
   have ks := eMs.ok k41
   refine LGet.mk (v := .int .i64 r) rfl (step_geq (wpIf.dec (fun g1 => ?_) (fun g1 => ?_)))
   ·refine LGet.mk (v := .int .i64 r) rfl (step_lenG gra (step_lss (wpIf.dec (fun g2 => ?_) (fun g2 => ?_))))
    ·obtain ⟨L0, hL0⟩ : ∃ L0, G[0]? = some L0 := ⟨_, List.getElem?_eq_getElem (by omega)⟩
     have hL0C := hGC L0 (List.mem_of_getElem? hL0)
     refine step_lenH rta (rdG (i := (0 : Int)) (L := L0) (gra.ext eMs) (by omega) (by exact hL0) fun p x sx => step_lenS sx (step_eql ⟨.bool false, neqB_same (decide_eq_decide.2 ⟨fun h => by omega, fun h => ⟨g1, g2, by omega⟩⟩), wpIf.ff ?_⟩))
     refine rows_W' (freeze_ok Ms) gs.freeze fun M18x r17 e17 n17 => ⟨e17.keepF _, LGet.mk (v := .int .i64 r) rfl ?_⟩
     have e17' := e17.thaw
     have n17' : Gr (M18x.thaw Ms.base) r17 (setG G C r Rr) := n17.gr
     generalize M18x.thaw Ms.base = R17 at e17' n17' ⊢
     have e17m := eMs.trans e17'
     refine refsetH_W ((e46.trans e9).trans (e9a.trans e17m)) (e17m.ok k41) (n9.ext (e9a.trans e17m)) (by omega) (rta.ext e17m) (by omega) fun M21 r20 e21 n21 => ⟨e21.keep _, r20, rfl, ?_⟩
     rw [set_same hGC hrows.1] at n21
     refine rsame_W (e21.ok (e17m.ok k41)) (n17'.ext e21) n21.gr (fun L hL => by rw [gs.facts.1 L hL]; omega) (by unfold setG; split <;> simp <;> omega) ⟨KeepB.refl _ _, ?_⟩
     rw [decide_eq_true rfl]
     exact ⟨_, rfl, wpIf.ff (step_add (by omega) (by omega) ⟨3 - (i + 1), by omega, i + 1, M21, rfl, e17m.trans e21, by omega, rfl⟩)⟩
    ·refine ⟨.bool false, neqB_same (decide_eq_false fun h => g2 h.2.1), wpIf.ff ?_⟩
     refine rows_W' (freeze_ok Ms) gs.freeze fun M18x r17 e17 n17 => ⟨e17.keepF _, LGet.mk (v := .int .i64 r) rfl ?_⟩
     have e17' := e17.thaw
     have n17' : Gr (M18x.thaw Ms.base) r17 (setG G C r Rr) := n17.gr
     generalize M18x.thaw Ms.base = R17 at e17' n17' ⊢
     have e17m := eMs.trans e17'
     refine refsetH_W ((e46.trans e9).trans (e9a.trans e17m)) (e17m.ok k41) (n9.ext (e9a.trans e17m)) (by omega) (rta.ext e17m) (by omega) fun M21 r20 e21 n21 => ⟨e21.keep _, r20, rfl, ?_⟩
     rw [set_same hGC hrows.1] at n21
     refine rsame_W (e21.ok (e17m.ok k41)) (n17'.ext e21) n21.gr (fun L hL => by rw [gs.facts.1 L hL]; omega) (by unfold setG; split <;> simp <;> omega) ⟨KeepB.refl _ _, ?_⟩
     rw [decide_eq_true rfl]
     exact ⟨_, rfl, wpIf.ff (step_add (by omega) (by omega) ⟨3 - (i + 1), by omega, i + 1, M21, rfl, e17m.trans e21, by omega, rfl⟩)⟩
   ·refine ⟨.bool false, neqB_same (decide_eq_false fun h => g1 h.1), wpIf.ff ?_⟩
    refine rows_W' (freeze_ok Ms) gs.freeze fun M18x r17 e17 n17 => ⟨e17.keepF _, LGet.mk (v := .int .i64 r) rfl ?_⟩
    have e17' := e17.thaw
    have n17' : Gr (M18x.thaw Ms.base) r17 (setG G C r Rr) := n17.gr
    generalize M18x.thaw Ms.base = R17 at e17' n17' ⊢
    have e17m := eMs.trans e17'
    refine refsetH_W ((e46.trans e9).trans (e9a.trans e17m)) (e17m.ok k41) (n9.ext (e9a.trans e17m)) (by omega) (rta.ext e17m) (by omega) fun M21 r20 e21 n21 => ⟨e21.keep _, r20, rfl, ?_⟩
    rw [set_same hGC hrows.1] at n21
    refine rsame_W (e21.ok (e17m.ok k41)) (n17'.ext e21) n21.gr (fun L hL => by rw [gs.facts.1 L hL]; omega) (by unfold setG; split <;> simp <;> omega) ⟨KeepB.refl _ _, ?_⟩
    rw [decide_eq_true rfl]
    exact ⟨_, rfl, wpIf.ff (step_add (by omega) (by omega) ⟨3 - (i + 1), by omega, i + 1, M21, rfl, e17m.trans e21, by omega, rfl⟩)⟩
  ·refine ⟨.bool false, neqB_same (decide_eq_false fun h => g0 ((rowG_pos hGC hC1 r).1 h).1), wpIf.ff ?_⟩
   have eR10 := eN3.trans e10.thaw
   have s10 := (e3.trans e10.thaw).size
   generalize M10.thaw M3.base = R10 at eR10 s10 ⊢
   refine law11_GridAsks_c4_wp (gcopy_W (e9a.trans (eN.trans eR10)) k9 (ga.ext (eN.trans eR10)) fun Mc b' rb' ec gc hb' hrb' => ⟨ec.keep _, LGet.mk (v := .int .i64 r) rfl (gsetH_W ((e9a.trans (eN.trans eR10)).trans ec) k9 gc (rta.ext ((eN.trans eR10).trans ec)) (by omega) fun Ms ts gs => ⟨(ts.chg (b := b')).keep fun y hy => ?_, ?_⟩)⟩)
   ·simp only [List.mem_cons, List.not_mem_nil, or_false] at hy
    omega
   have eMs : Ext M41 Ms := (ts.chg (b := b')).ext ((eN.trans eR10).trans ec) (by have := (eN.trans eR10).size; omega) (by have := (eN.trans eR10).size; omega)
   have ks := eMs.ok k41
   refine LGet.mk (v := .int .i64 r) rfl (step_geq (wpIf.dec (fun g1 => ?_) (fun g1 => ?_)))
   ·refine LGet.mk (v := .int .i64 r) rfl (step_lenG gra (step_lss (wpIf.dec (fun g2 => ?_) (fun g2 => ?_))))
    ·obtain ⟨L0, hL0⟩ : ∃ L0, G[0]? = some L0 := ⟨_, List.getElem?_eq_getElem (by omega)⟩
     have hL0C := hGC L0 (List.mem_of_getElem? hL0)
     refine step_lenH rta (rdG (i := (0 : Int)) (L := L0) (gra.ext eMs) (by omega) (by exact hL0) fun p x sx => step_lenS sx (step_eql ⟨.bool false, neqB_same (decide_eq_decide.2 ⟨fun h => by omega, fun h => ⟨g1, g2, by omega⟩⟩), wpIf.ff ?_⟩))
     refine rows_W' (freeze_ok Ms) gs.freeze fun M18x r17 e17 n17 => ⟨e17.keepF _, LGet.mk (v := .int .i64 r) rfl ?_⟩
     have e17' := e17.thaw
     have n17' : Gr (M18x.thaw Ms.base) r17 (setG G C r Rr) := n17.gr
     generalize M18x.thaw Ms.base = R17 at e17' n17' ⊢
     have e17m := eMs.trans e17'
     refine refsetH_W ((e46.trans e9).trans (e9a.trans e17m)) (e17m.ok k41) (n9.ext (e9a.trans e17m)) (by omega) (rta.ext e17m) (by omega) fun M21 r20 e21 n21 => ⟨e21.keep _, r20, rfl, ?_⟩
     rw [set_same hGC hrows.1] at n21
     refine rsame_W (e21.ok (e17m.ok k41)) (n17'.ext e21) n21.gr (fun L hL => by rw [gs.facts.1 L hL]; omega) (by unfold setG; split <;> simp <;> omega) ⟨KeepB.refl _ _, ?_⟩
     rw [decide_eq_true rfl]
     exact ⟨_, rfl, wpIf.ff (step_add (by omega) (by omega) ⟨3 - (i + 1), by omega, i + 1, M21, rfl, e17m.trans e21, by omega, rfl⟩)⟩
    ·refine ⟨.bool false, neqB_same (decide_eq_false fun h => g2 h.2.1), wpIf.ff ?_⟩
     refine rows_W' (freeze_ok Ms) gs.freeze fun M18x r17 e17 n17 => ⟨e17.keepF _, LGet.mk (v := .int .i64 r) rfl ?_⟩
     have e17' := e17.thaw
     have n17' : Gr (M18x.thaw Ms.base) r17 (setG G C r Rr) := n17.gr
     generalize M18x.thaw Ms.base = R17 at e17' n17' ⊢
     have e17m := eMs.trans e17'
     refine refsetH_W ((e46.trans e9).trans (e9a.trans e17m)) (e17m.ok k41) (n9.ext (e9a.trans e17m)) (by omega) (rta.ext e17m) (by omega) fun M21 r20 e21 n21 => ⟨e21.keep _, r20, rfl, ?_⟩
     rw [set_same hGC hrows.1] at n21
     refine rsame_W (e21.ok (e17m.ok k41)) (n17'.ext e21) n21.gr (fun L hL => by rw [gs.facts.1 L hL]; omega) (by unfold setG; split <;> simp <;> omega) ⟨KeepB.refl _ _, ?_⟩
     rw [decide_eq_true rfl]
     exact ⟨_, rfl, wpIf.ff (step_add (by omega) (by omega) ⟨3 - (i + 1), by omega, i + 1, M21, rfl, e17m.trans e21, by omega, rfl⟩)⟩
   ·refine ⟨.bool false, neqB_same (decide_eq_false fun h => g1 h.1), wpIf.ff ?_⟩
    refine rows_W' (freeze_ok Ms) gs.freeze fun M18x r17 e17 n17 => ⟨e17.keepF _, LGet.mk (v := .int .i64 r) rfl ?_⟩
    have e17' := e17.thaw
    have n17' : Gr (M18x.thaw Ms.base) r17 (setG G C r Rr) := n17.gr
    generalize M18x.thaw Ms.base = R17 at e17' n17' ⊢
    have e17m := eMs.trans e17'
    refine refsetH_W ((e46.trans e9).trans (e9a.trans e17m)) (e17m.ok k41) (n9.ext (e9a.trans e17m)) (by omega) (rta.ext e17m) (by omega) fun M21 r20 e21 n21 => ⟨e21.keep _, r20, rfl, ?_⟩
    rw [set_same hGC hrows.1] at n21
    refine rsame_W (e21.ok (e17m.ok k41)) (n17'.ext e21) n21.gr (fun L hL => by rw [gs.facts.1 L hL]; omega) (by unfold setG; split <;> simp <;> omega) ⟨KeepB.refl _ _, ?_⟩
    rw [decide_eq_true rfl]
    exact ⟨_, rfl, wpIf.ff (step_add (by omega) (by omega) ⟨3 - (i + 1), by omega, i + 1, M21, rfl, e17m.trans e21, by omega, rfl⟩)⟩
 | false =>
  have hwa : w = zeroC := by rw [hw, hh]; rfl
  refine wpIf.ff ?_
  have eR : Ext N M18 := eN18
  have sR : M15.size ≤ M18.size := s18
  generalize M18 = R at eR sR ⊢
  refine law11_GridAsks_c3_wp (LGetN.as (posV r cc) (by exact Nat.le_refl 2) rfl (refIs_W (eR.ok kN) (gra.ext (eN.trans eR)) hGC fun M3 e3 => ⟨e3.keep _, .bool false, neqB_same hh.symm, wpIf.ff (LGetN.as w.val (by exact Nat.le_refl 14) rfl (LGetN.as zeroC.val (by exact Nat.le_refl 14) rfl (step_neqCe ?_)))⟩))
  rw [decide_eq_false (fun hne => hne hwa)]
  have eN3 := eR.trans e3
  have k3 := eN3.ok kN
  refine wpIf.ff (LGet.mk (v := .int .i64 r) rfl (grow_row_W (freeze_ok M3) ((ga.ext (eN.trans eN3)).freeze) fun M10 v9 e10 n10 => ⟨e10.keepF _, step_lenS n10.sl (step_gtr (LGet.mk (v := .int .i64 r) rfl (step_geq (wpIf.dec (fun g0 => ?_) (fun g0 => ?_)))))⟩))
  ·refine LGet.mk (v := .int .i64 r) rfl (step_lenG gra (step_lss ⟨.bool false, neqB_same (decide_eq_decide.2 ((rowG_pos hGC hC1 r).trans ⟨fun h => h.2, fun h => ⟨g0, h⟩⟩)), wpIf.ff ?_⟩))
   have eR10 := eN3.trans e10.thaw
   have s10 := (e3.trans e10.thaw).size
   generalize M10.thaw M3.base = R10 at eR10 s10 ⊢
   refine law11_GridAsks_c4_wp (gcopy_W (e9a.trans (eN.trans eR10)) k9 (ga.ext (eN.trans eR10)) fun Mc b' rb' ec gc hb' hrb' => ⟨ec.keep _, LGet.mk (v := .int .i64 r) rfl (gsetH_W ((e9a.trans (eN.trans eR10)).trans ec) k9 gc (rta.ext ((eN.trans eR10).trans ec)) (by omega) fun Ms ts gs => ⟨(ts.chg (b := b')).keep fun y hy => ?_, ?_⟩)⟩)
   ·simp only [List.mem_cons, List.not_mem_nil, or_false] at hy
    omega
   have eMs : Ext M41 Ms := (ts.chg (b := b')).ext ((eN.trans eR10).trans ec) (by have := (eN.trans eR10).size; omega) (by have := (eN.trans eR10).size; omega)
   have ks := eMs.ok k41
   refine LGet.mk (v := .int .i64 r) rfl (step_geq (wpIf.dec (fun g1 => ?_) (fun g1 => ?_)))
   ·refine LGet.mk (v := .int .i64 r) rfl (step_lenG gra (step_lss (wpIf.dec (fun g2 => ?_) (fun g2 => ?_))))
    ·obtain ⟨L0, hL0⟩ : ∃ L0, G[0]? = some L0 := ⟨_, List.getElem?_eq_getElem (by omega)⟩
     have hL0C := hGC L0 (List.mem_of_getElem? hL0)
     refine step_lenH rta (rdG (i := (0 : Int)) (L := L0) (gra.ext eMs) (by omega) (by exact hL0) fun p x sx => step_lenS sx (step_eql ⟨.bool false, neqB_same (decide_eq_decide.2 ⟨fun h => by omega, fun h => ⟨g1, g2, by omega⟩⟩), wpIf.ff ?_⟩))
     refine rows_W' (freeze_ok Ms) gs.freeze fun M18x r17 e17 n17 => ⟨e17.keepF _, LGet.mk (v := .int .i64 r) rfl ?_⟩
     have e17' := e17.thaw
     have n17' : Gr (M18x.thaw Ms.base) r17 (setG G C r Rr) := n17.gr
     generalize M18x.thaw Ms.base = R17 at e17' n17' ⊢
     have e17m := eMs.trans e17'
     refine refsetH_W ((e46.trans e9).trans (e9a.trans e17m)) (e17m.ok k41) (n9.ext (e9a.trans e17m)) (by omega) (rta.ext e17m) (by omega) fun M21 r20 e21 n21 => ⟨e21.keep _, r20, rfl, ?_⟩
     rw [set_same hGC hrows.1] at n21
     refine rsame_W (e21.ok (e17m.ok k41)) (n17'.ext e21) n21.gr (fun L hL => by rw [gs.facts.1 L hL]; omega) (by unfold setG; split <;> simp <;> omega) ⟨KeepB.refl _ _, ?_⟩
     rw [decide_eq_true rfl]
     exact ⟨_, rfl, wpIf.ff (step_add (by omega) (by omega) ⟨3 - (i + 1), by omega, i + 1, M21, rfl, e17m.trans e21, by omega, rfl⟩)⟩
    ·refine ⟨.bool false, neqB_same (decide_eq_false fun h => g2 h.2.1), wpIf.ff ?_⟩
     refine rows_W' (freeze_ok Ms) gs.freeze fun M18x r17 e17 n17 => ⟨e17.keepF _, LGet.mk (v := .int .i64 r) rfl ?_⟩
     have e17' := e17.thaw
     have n17' : Gr (M18x.thaw Ms.base) r17 (setG G C r Rr) := n17.gr
     generalize M18x.thaw Ms.base = R17 at e17' n17' ⊢
     have e17m := eMs.trans e17'
     refine refsetH_W ((e46.trans e9).trans (e9a.trans e17m)) (e17m.ok k41) (n9.ext (e9a.trans e17m)) (by omega) (rta.ext e17m) (by omega) fun M21 r20 e21 n21 => ⟨e21.keep _, r20, rfl, ?_⟩
     rw [set_same hGC hrows.1] at n21
     refine rsame_W (e21.ok (e17m.ok k41)) (n17'.ext e21) n21.gr (fun L hL => by rw [gs.facts.1 L hL]; omega) (by unfold setG; split <;> simp <;> omega) ⟨KeepB.refl _ _, ?_⟩
     rw [decide_eq_true rfl]
     exact ⟨_, rfl, wpIf.ff (step_add (by omega) (by omega) ⟨3 - (i + 1), by omega, i + 1, M21, rfl, e17m.trans e21, by omega, rfl⟩)⟩
   ·refine ⟨.bool false, neqB_same (decide_eq_false fun h => g1 h.1), wpIf.ff ?_⟩
    refine rows_W' (freeze_ok Ms) gs.freeze fun M18x r17 e17 n17 => ⟨e17.keepF _, LGet.mk (v := .int .i64 r) rfl ?_⟩
    have e17' := e17.thaw
    have n17' : Gr (M18x.thaw Ms.base) r17 (setG G C r Rr) := n17.gr
    generalize M18x.thaw Ms.base = R17 at e17' n17' ⊢
    have e17m := eMs.trans e17'
    refine refsetH_W ((e46.trans e9).trans (e9a.trans e17m)) (e17m.ok k41) (n9.ext (e9a.trans e17m)) (by omega) (rta.ext e17m) (by omega) fun M21 r20 e21 n21 => ⟨e21.keep _, r20, rfl, ?_⟩
    rw [set_same hGC hrows.1] at n21
    refine rsame_W (e21.ok (e17m.ok k41)) (n17'.ext e21) n21.gr (fun L hL => by rw [gs.facts.1 L hL]; omega) (by unfold setG; split <;> simp <;> omega) ⟨KeepB.refl _ _, ?_⟩
    rw [decide_eq_true rfl]
    exact ⟨_, rfl, wpIf.ff (step_add (by omega) (by omega) ⟨3 - (i + 1), by omega, i + 1, M21, rfl, e17m.trans e21, by omega, rfl⟩)⟩
  ·refine ⟨.bool false, neqB_same (decide_eq_false fun h => g0 ((rowG_pos hGC hC1 r).1 h).1), wpIf.ff ?_⟩
   have eR10 := eN3.trans e10.thaw
   have s10 := (e3.trans e10.thaw).size
   generalize M10.thaw M3.base = R10 at eR10 s10 ⊢
   refine law11_GridAsks_c4_wp (gcopy_W (e9a.trans (eN.trans eR10)) k9 (ga.ext (eN.trans eR10)) fun Mc b' rb' ec gc hb' hrb' => ⟨ec.keep _, LGet.mk (v := .int .i64 r) rfl (gsetH_W ((e9a.trans (eN.trans eR10)).trans ec) k9 gc (rta.ext ((eN.trans eR10).trans ec)) (by omega) fun Ms ts gs => ⟨(ts.chg (b := b')).keep fun y hy => ?_, ?_⟩)⟩)
   ·simp only [List.mem_cons, List.not_mem_nil, or_false] at hy
    omega
   have eMs : Ext M41 Ms := (ts.chg (b := b')).ext ((eN.trans eR10).trans ec) (by have := (eN.trans eR10).size; omega) (by have := (eN.trans eR10).size; omega)
   have ks := eMs.ok k41
   refine LGet.mk (v := .int .i64 r) rfl (step_geq (wpIf.dec (fun g1 => ?_) (fun g1 => ?_)))
   ·refine LGet.mk (v := .int .i64 r) rfl (step_lenG gra (step_lss (wpIf.dec (fun g2 => ?_) (fun g2 => ?_))))
    ·obtain ⟨L0, hL0⟩ : ∃ L0, G[0]? = some L0 := ⟨_, List.getElem?_eq_getElem (by omega)⟩
     have hL0C := hGC L0 (List.mem_of_getElem? hL0)
     refine step_lenH rta (rdG (i := (0 : Int)) (L := L0) (gra.ext eMs) (by omega) (by exact hL0) fun p x sx => step_lenS sx (step_eql ⟨.bool false, neqB_same (decide_eq_decide.2 ⟨fun h => by omega, fun h => ⟨g1, g2, by omega⟩⟩), wpIf.ff ?_⟩))
     refine rows_W' (freeze_ok Ms) gs.freeze fun M18x r17 e17 n17 => ⟨e17.keepF _, LGet.mk (v := .int .i64 r) rfl ?_⟩
     have e17' := e17.thaw
     have n17' : Gr (M18x.thaw Ms.base) r17 (setG G C r Rr) := n17.gr
     generalize M18x.thaw Ms.base = R17 at e17' n17' ⊢
     have e17m := eMs.trans e17'
     refine refsetH_W ((e46.trans e9).trans (e9a.trans e17m)) (e17m.ok k41) (n9.ext (e9a.trans e17m)) (by omega) (rta.ext e17m) (by omega) fun M21 r20 e21 n21 => ⟨e21.keep _, r20, rfl, ?_⟩
     rw [set_same hGC hrows.1] at n21
     refine rsame_W (e21.ok (e17m.ok k41)) (n17'.ext e21) n21.gr (fun L hL => by rw [gs.facts.1 L hL]; omega) (by unfold setG; split <;> simp <;> omega) ⟨KeepB.refl _ _, ?_⟩
     rw [decide_eq_true rfl]
     exact ⟨_, rfl, wpIf.ff (step_add (by omega) (by omega) ⟨3 - (i + 1), by omega, i + 1, M21, rfl, e17m.trans e21, by omega, rfl⟩)⟩
    ·refine ⟨.bool false, neqB_same (decide_eq_false fun h => g2 h.2.1), wpIf.ff ?_⟩
     refine rows_W' (freeze_ok Ms) gs.freeze fun M18x r17 e17 n17 => ⟨e17.keepF _, LGet.mk (v := .int .i64 r) rfl ?_⟩
     have e17' := e17.thaw
     have n17' : Gr (M18x.thaw Ms.base) r17 (setG G C r Rr) := n17.gr
     generalize M18x.thaw Ms.base = R17 at e17' n17' ⊢
     have e17m := eMs.trans e17'
     refine refsetH_W ((e46.trans e9).trans (e9a.trans e17m)) (e17m.ok k41) (n9.ext (e9a.trans e17m)) (by omega) (rta.ext e17m) (by omega) fun M21 r20 e21 n21 => ⟨e21.keep _, r20, rfl, ?_⟩
     rw [set_same hGC hrows.1] at n21
     refine rsame_W (e21.ok (e17m.ok k41)) (n17'.ext e21) n21.gr (fun L hL => by rw [gs.facts.1 L hL]; omega) (by unfold setG; split <;> simp <;> omega) ⟨KeepB.refl _ _, ?_⟩
     rw [decide_eq_true rfl]
     exact ⟨_, rfl, wpIf.ff (step_add (by omega) (by omega) ⟨3 - (i + 1), by omega, i + 1, M21, rfl, e17m.trans e21, by omega, rfl⟩)⟩
   ·refine ⟨.bool false, neqB_same (decide_eq_false fun h => g1 h.1), wpIf.ff ?_⟩
    refine rows_W' (freeze_ok Ms) gs.freeze fun M18x r17 e17 n17 => ⟨e17.keepF _, LGet.mk (v := .int .i64 r) rfl ?_⟩
    have e17' := e17.thaw
    have n17' : Gr (M18x.thaw Ms.base) r17 (setG G C r Rr) := n17.gr
    generalize M18x.thaw Ms.base = R17 at e17' n17' ⊢
    have e17m := eMs.trans e17'
    refine refsetH_W ((e46.trans e9).trans (e9a.trans e17m)) (e17m.ok k41) (n9.ext (e9a.trans e17m)) (by omega) (rta.ext e17m) (by omega) fun M21 r20 e21 n21 => ⟨e21.keep _, r20, rfl, ?_⟩
    rw [set_same hGC hrows.1] at n21
    refine rsame_W (e21.ok (e17m.ok k41)) (n17'.ext e21) n21.gr (fun L hL => by rw [gs.facts.1 L hL]; omega) (by unfold setG; split <;> simp <;> omega) ⟨KeepB.refl _ _, ?_⟩
    rw [decide_eq_true rfl]
    exact ⟨_, rfl, wpIf.ff (step_add (by omega) (by omega) ⟨3 - (i + 1), by omega, i + 1, M21, rfl, e17m.trans e21, by omega, rfl⟩)⟩
end
end Go.Proofs.Ytifemfnjoobiiaa.Run
