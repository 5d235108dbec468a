
/- What the functions of the document's answer to chapter 10 do, by which rows are drawn: New, Attr, Cell, labels, filled, Row, Other. -/
import Derived.Test.YtifemfnjoobiiaaRowF
namespace Go.Proofs.Ytifemfnjoobiiaa.Run
open Go Go.RowKit
set_option linter.unusedVariables false
set_option linter.unusedSimpArgs false
section
variable {M : Mem} {Q : Value → Mem → Prop}
abbrev rnI (P : Mem) (n : Nat) (x : Int) (c : Ce) (b1 : Nat) : Nat → LS → Prop := fun k s => ∃ (i : Nat) (M' : Mem) (v : Value), s = ref10_New_l1_s (.int .i64 x) v (.int .i64 i) b1 (.int .i32 c.rune) (.int .i32 c.m1) (.int .i32 c.m2) (.int .u8 c.kind) (.int .u8 c.attr.a1) (.int .u8 c.attr.a2) (.int .u8 c.attr.a3) (.int .u8 c.attr.a4) (.int .u8 c.attr.a5) (.int .u8 c.attr.a6) (.int .u8 c.attr.a7) (.int .u8 c.attr.a8) (.int .u16 c.attr.a9) (.int .u8 c.label) [] M' ∧ Ext P M' ∧ Mine 42 P M' v (List.replicate i c) ∧ i ≤ n ∧ k = n - i
set_option maxHeartbeats 1000000 in
theorem refnew_W (hM : M.base ≤ M.size) {x : Int} {c : Ce} (hx : x ≤ 2 ^ 30) (q : ∀ M' r, Ext M M' → Mine 42 M M' r (List.replicate x.toNat c) → Q r M') : W funs known (.func (.func n_ref10_New) #[] #[]) [.int .i64 x, c.val] M Q := by
 refine ref10_New_wp hM ⟨rfl, fun b1 P hb1 hP => ?_⟩
 have eP : Ext M P := Ext.push' hP
 have sP : P.size = M.size + 1 := by rw [hP]; rfl
 have kP := eP.ok hM
 refine ⟨ref10_New_l1_m, rnI P x.toNat x c b1, ⟨x.toNat, 0, P, .slice none 0 0, rfl, Ext.refl _, .inr ⟨rfl, rfl⟩, Nat.zero_le _, rfl⟩, ?_⟩
 rintro k s ⟨i, M', v, rfl, eM, nM0, hi, rfl⟩
 have nM : Mine 42 P M' v (List.replicate i c) := nM0
 refine ref10_New_l1_wp (I := rnI P x.toNat x c b1) ?_
 refine step_lss (wpIf.dec (fun h1 => ?_) (fun h1 => ?_))
 ·refine step_lit [c] rfl rfl fun v2 M3 e3 n3 => ⟨e3.keep _, ?_⟩
  refine step_appM (eM.trans e3) kP (nM.ext e3) n3.sl.srcs (by simp; omega) (by simp; omega) fun v4 M5 e5 n5 _ => ⟨keepE (by omega) (eM.trans e3) e5, step_add (by omega) (by omega) ⟨x.toNat - (i + 1), by omega, i + 1, M5, v4, rfl, e5, ?_, by omega, rfl⟩⟩
  rw [List.replicate_succ']; exact n5
 ·have : i = x.toNat := by omega
  subst this
  exact blockK.hit (ref10_New_c0_wp (q M' v (eP.trans eM) (nM.old eP)))
theorem attr_W (hM : M.base ≤ M.size) {n : Int} (hn : 0 ≤ n ∧ n ≤ 255) (q : ∀ M', Ext M M' → Q (.agg (attrF n).cells.toArray) M') : W funs known (.func (.func n_ref10_Attr) #[] #[]) [.int .u8 n] M Q := by
 refine ref10_Attr_wp hM ⟨rfl, fun b1 M2 hb1 hM2 => ?_⟩
 have e2 : Ext M M2 := Ext.push' hM2
 have s2 : M2.size = M.size + 1 := by rw [hM2]; rfl
 refine step_rem8 (by omega) (by omega) (step_rem8 (by omega) (by omega) ⟨_, rfl, step_quo8 (by omega) (by omega) (by omega) (step_rem8 (by omega) (by omega) (step_rem8 (by omega) (by omega) ⟨_, rfl, step_rem8 (by omega) (by omega) (step_conv (IntWalk.u16_in _ (by omega)) ⟨.agg (attrF n).cells.toArray, rfl, ⟨rfl, rfl, by decide⟩, fun M13 hM13 => LGetN.as (.agg (attrF n).cells.toArray) (by exact Nat.le_refl 9) rfl (q _ (hM13 ▸ e2.set (by omega) (by omega) _))⟩)⟩))⟩)
abbrev ceI (M₀ : Mem) (d : Dr) (b1 b3 b11 : Nat) : Nat → LS → Prop := fun k s => ∃ (j : Nat) (M' : Mem), s = ref10_Draft_Cell_l1_s (.int .i64 j) b1 (.int .u8 d.rune) (.int .u8 d.marks) (.int .u8 d.attr) (.bool d.wide) (.bool d.high) b3 (.int .i32 0) (.int .i32 0) (.int .i32 0) (.int .u8 0) (.int .u8 0) (.int .u8 0) (.int .u8 0) (.int .u8 0) (.int .u8 0) (.int .u8 0) (.int .u8 0) (.int .u8 0) (.int .u16 0) (.int .u8 0) b11 (Enc.enc (cellK d j)) [] M' ∧ Ext M₀ M' ∧ b11 < M'.size ∧ j ≤ 2 ∧ (j : Int) ≤ d.marks % 8 ∧ k = 2 - j
set_option maxHeartbeats 1000000 in
theorem cell_W (hM : M.base ≤ M.size) {d : Dr} (hd : d.ok) (q : ∀ M', Ext M M' → Q (cellF d).val M') : W funs known (.func (.func n_ref10_Draft_Cell) #[] #[]) [d.val] M Q := by
 obtain ⟨o1, o2, o3⟩ := hd
 refine ref10_Draft_Cell_wp hM ⟨rfl, fun b1 M2 hb1 hM2 => ⟨rfl, fun b3 M4 hb3 hM4 => ?_⟩⟩
 have e2 : Ext M M2 := Ext.push' hM2
 have e4 : Ext M M4 := e2.trans (Ext.push' hM4)
 have s2 : M2.size = M.size + 1 := by rw [hM2]; rfl
 have s4 : M4.size = M2.size + 1 := by rw [hM4]; rfl
 refine step_rem8 (by omega) (by omega) (step_conv (IntWalk.i32_in _ (by omega)) (step_addK (IntWalk.i32_in _ (by omega)) ?_))
 refine attr_W (freeze_ok _) o3 fun M9 e9 => ⟨e9.keepF _, ?_⟩
 have e49 := Ext.thaw e9
 have s9 := e49.size
 refine ⟨(cellK d 0).val, rfl, rfl, fun b11 M12 hb11 hM12 => ⟨⟨rfl, rfl, by decide⟩, fun M13 hM13 => ?_⟩⟩
 have e12 : Ext M M12 := (e4.trans e49).trans (Ext.push' hM12)
 have s12 : M12.size = (M9.thaw M4.base).size + 1 := by rw [hM12]; rfl
 have e13 : Ext M M13 := hM13 ▸ e12.set (by omega) (by omega) _
 have s13 : M13.size = M12.size := by rw [hM13]; rfl
 have hb : M4.size ≤ b11 := by omega
 have hb' : b11 < M13.size := by omega
 clear hM13 hM12 e12 s12 s13 hb11
 refine ⟨ref10_Draft_Cell_l1_m, ceI M d b1 b3 b11, ⟨2, 0, M13, rfl, e13, hb', by omega, by omega, rfl⟩, ?_⟩
 rintro k s ⟨j, M', rfl, eM, hbM, hj, hjm, rfl⟩
 refine ref10_Draft_Cell_l1_wp (I := ceI M d b1 b3 b11) ?_
 have done : (j = 2 ∨ (j : Int) = d.marks % 8) → ref10_Draft_Cell_c0_q b1 (.int .u8 d.rune) (.int .u8 d.marks) (.int .u8 d.attr) (.bool d.wide) (.bool d.high) b3 (.int .i32 0) (.int .i32 0) (.int .i32 0) (.int .u8 0) (.int .u8 0) (.int .u8 0) (.int .u8 0) (.int .u8 0) (.int .u8 0) (.int .u8 0) (.int .u8 0) (.int .u8 0) (.int .u16 0) (.int .u8 0) b11 (Enc.enc (cellK d j)) M' Q := fun hj2 => by
  have hmk : cellF d = { cellK d j with label := if d.high then 1 else 0 } := by
   unfold cellF cellK
   have h1 : (1 ≤ d.marks % 8) ↔ 1 ≤ j := by omega
   have h2 : (2 ≤ d.marks % 8) ↔ 2 ≤ j := by omega
   simp only [h1, h2]
  refine wpIf.mk (fun hh => ?_) (fun hh => ?_)
  ·rw [hh] at hmk
   refine ⟨_, rfl, rfl, by exact Nat.lt_of_lt_of_le (by decide) (Nat.le_refl 14), fun M1 hM1 => ?_⟩
   have e1 : Ext M M1 := hM1 ▸ eM.set (by omega) (by omega) _
   have s1 : M1.size = M'.size := by rw [hM1]; rfl
   refine LGetN.as (cellF d).val (by exact Nat.le_refl 14) (by rw [hmk]; rfl) ⟨⟨rfl, rfl, by decide⟩, fun M4' hM4' => LGetN.as (cellF d).val (by exact Nat.le_refl 14) rfl (q _ (hM4' ▸ e1.set (by omega) (by omega) _))⟩
  ·rw [hh] at hmk
   refine LGetN.as (cellF d).val (by exact Nat.le_refl 14) (by rw [hmk]; rfl) ⟨⟨rfl, rfl, by decide⟩, fun M4' hM4' => LGetN.as (cellF d).val (by exact Nat.le_refl 14) rfl (q _ (hM4' ▸ eM.set (by omega) (by omega) _))⟩
 refine step_rem8 (by omega) (by omega) (step_conv (IntWalk.i64_in _ (by omega)) (step_lss (wpIf.dec (fun h1 => ?_) (fun h1 => ?_))))
 ·rcases (show j = 0 ∨ j = 1 ∨ j = 2 by omega) with rfl | rfl | rfl
  ·refine step_lss (wpIf.tt ⟨by decide, _, rfl, rfl, by exact Nat.lt_of_lt_of_le (by decide) (Nat.le_refl 14), fun M6 hM6 => step_add (by omega) (by omega) ⟨1, by omega, 1, M6, rfl, hM6 ▸ eM.set (by omega) (by omega) _, by rw [hM6]; exact hbM, by omega, by omega, rfl⟩⟩)
  ·refine step_lss (wpIf.tt ⟨by decide, _, rfl, rfl, by exact Nat.lt_of_lt_of_le (by decide) (Nat.le_refl 14), fun M6 hM6 => step_add (by omega) (by omega) ⟨0, by omega, 2, M6, rfl, hM6 ▸ eM.set (by omega) (by omega) _, by rw [hM6]; exact hbM, by omega, by omega, rfl⟩⟩)
  ·exact step_lss (wpIf.ff (blockK.hit (ref10_Draft_Cell_c0_wp (done (.inl rfl)))))
 ·exact blockK.hit (ref10_Draft_Cell_c0_wp (done (by omega)))
def labF (D : List Dr) (i : Nat) : Int := match D[i % D.length]? with
 | some d => if d.high then 1 else 0
 | none => 0
def labelsF (n : Nat) (D : List Dr) : List Lv := (List.range n).map fun i => ⟨labF D i⟩
theorem labelsF_succ (n : Nat) (D : List Dr) : labelsF (n + 1) D = labelsF n D ++ [⟨labF D n⟩] := by simp [labelsF, List.range_succ]
abbrev laI (P : Mem) (D : List Dr) (c : Int) (dv : Value) (b1 : Nat) : Nat → LS → Prop := fun k s => ∃ (i : Nat) (M' : Mem) (v : Value), s = ref10_Line_labels_l1_s v (.int .i64 i) b1 (.int .u8 c) dv [] M' ∧ Ext P M' ∧ Mine 40 P M' v (labelsF i D) ∧ i ≤ (c % 31).toNat ∧ k = (c % 31).toNat - i
set_option maxHeartbeats 1000000 in
theorem labels_W (hM : M.base ≤ M.size) {c : Int} (hc : 0 ≤ c ∧ c ≤ 255) {dv : Value} {D : List Dr} (h : SlH M dv D) (q : ∀ M' r, Ext M M' → Mine 40 M M' r (labelsF (c % 31).toNat D) → Q r M') : W funs known (.func (.func n_ref10_Line_labels) #[] #[]) [.agg #[.int .u8 c, dv]] M Q := by
 refine ref10_Line_labels_wp hM ⟨rfl, fun b1 P hb1 hP => ?_⟩
 have eP : Ext M P := Ext.push' hP
 have sP : P.size = M.size + 1 := by rw [hP]; rfl
 have kP := eP.ok hM
 refine ⟨ref10_Line_labels_l1_m, laI P D c dv b1, ⟨(c % 31).toNat, 0, P, .slice none 0 0, rfl, Ext.refl _, .inr ⟨rfl, rfl⟩, Nat.zero_le _, rfl⟩, ?_⟩
 rintro k s ⟨i, M', v, rfl, eM, nM0, hi, rfl⟩
 have nM : Mine 40 P M' v (labelsF i D) := nM0
 refine ref10_Line_labels_l1_wp (I := laI P D c dv b1) ?_
 refine step_rem8 (by omega) (by omega) (step_conv (IntWalk.i64_in _ (by omega)) (step_lss (wpIf.dec (fun h1 => ?_) (fun h1 => ?_))))
 ·refine step_lenH h (step_gtr (wpIf.dec (fun h2 => step_lenH h (step_rem64 (by omega) (by omega) ?_)) (fun h2 => ?_)))
  ·have hlt : i % D.length < D.length := Nat.mod_lt _ (by omega)
   obtain ⟨d, hd⟩ : ∃ d, D[i % D.length]? = some d := ⟨_, List.getElem?_eq_getElem hlt⟩
   have hmod : ((i : Int) % (D.length : Int)) = ((i % D.length : Nat) : Int) := by omega
   rw [hmod]
   refine rd_f ((h.ext (eP.trans eM)).at hd) (by omega) (by rw [Int.toNat_natCast]; exact hd) (f := 4) rfl fun _ _ => wpIf.mk (fun hh => ?_) (fun hh => ?_)
   ·have hl : labF D i = 1 := by unfold labF; rw [hd]; simp [hh]
    refine step_lit [(⟨1⟩ : Lv)] rfl rfl fun v2 M3 e3 n3 => ⟨e3.keep _, ?_⟩
    refine step_appM (eM.trans e3) kP (nM.ext e3) n3.sl.srcs (by simp [labelsF]; omega) (by simp [labelsF]; omega) fun v4 M5 e5 n5 _ => ⟨keepE (by omega) (eM.trans e3) e5, step_add (by omega) (by omega) ⟨(c % 31).toNat - (i + 1), by omega, i + 1, M5, v4, rfl, e5, ?_, by omega, rfl⟩⟩
    rw [labelsF_succ, hl]; exact n5
   ·have hl : labF D i = 0 := by unfold labF; rw [hd]; simp [hh]
    refine step_lit [(⟨0⟩ : Lv)] rfl rfl fun v2 M3 e3 n3 => ⟨e3.keep _, ?_⟩
    refine step_appM (eM.trans e3) kP (nM.ext e3) n3.sl.srcs (by simp [labelsF]; omega) (by simp [labelsF]; omega) fun v4 M5 e5 n5 _ => ⟨keepE (by omega) (eM.trans e3) e5, step_add (by omega) (by omega) ⟨(c % 31).toNat - (i + 1), by omega, i + 1, M5, v4, rfl, e5, ?_, by omega, rfl⟩⟩
    rw [labelsF_succ, hl]; exact n5
  ·have hl : labF D i = 0 := by unfold labF; rw [List.getElem?_eq_none (by omega)]
   refine step_lit [(⟨0⟩ : Lv)] rfl rfl fun v2 M3 e3 n3 => ⟨e3.keep _, ?_⟩
   refine step_appM (eM.trans e3) kP (nM.ext e3) n3.sl.srcs (by simp [labelsF]; omega) (by simp [labelsF]; omega) fun v4 M5 e5 n5 _ => ⟨keepE (by omega) (eM.trans e3) e5, step_add (by omega) (by omega) ⟨(c % 31).toNat - (i + 1), by omega, i + 1, M5, v4, rfl, e5, ?_, by omega, rfl⟩⟩
   rw [labelsF_succ, hl]; exact n5
 ·have : i = (c % 31).toNat := by omega
  subst this
  exact blockK.hit (ref10_Line_labels_c0_wp (q M' v (eP.trans eM) (nM.old eP)))
end
end Go.Proofs.Ytifemfnjoobiiaa.Run
