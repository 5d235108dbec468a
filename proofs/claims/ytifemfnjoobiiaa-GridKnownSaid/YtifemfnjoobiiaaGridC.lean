/- What the functions of grids do (row by row): new ones, rows that are told and set, what is done to the row of a place. -/
import Derived.Test.YtifemfnjoobiiaaGp
import Derived.Test.YtifemfnjoobiiaaVcG
import Derived.Test.YtifemfnjoobiiaaRowP
namespace Go.Proofs.Ytifemfnjoobiiaa.Run
open Go Go.RowKit
set_option linter.unusedVariables false
set_option linter.unusedSimpArgs false
def mayB (r c : Int) : Bool := decide (1 ≤ r ∧ 1 ≤ c ∧ r ≤ 512 ∧ c ≤ 512)
def rowG (G : Gd) (i : Int) : List Ce := if 0 ≤ i then G.getD i.toNat [] else []
def modG (G : Gd) (i : Nat) (f : List Ce → List Ce) : Gd := match G[i]? with
 | some L => G.set i (f L)
 | none => G
def atG (G : Gd) (C : Nat) (r c : Int) (f : List Ce → List Ce) : Gd := if 0 ≤ r ∧ 0 ≤ c ∧ c < C then modG G r.toNat f else G
def eraseG (G : Gd) (r x y : Int) (c : Ce) : Gd := if 0 ≤ r then modG G r.toNat (fun L => eraseF L x y c) else G
section
variable {M : Mem} {Q : Value → Mem → Prop}
theorem may_W (hM : M.base ≤ M.size) {r c : Int} (q : Q (.bool (mayB r c)) M) : W funs known (.func (.func n_grid_may) #[] #[]) [.int .i64 r, .int .i64 c] M Q := by
 unfold mayB at q
 refine grid_may_wp hM (step_min (step_geq (wpIf.dec (fun h1 => step_leq (wpIf.dec (fun h2 => step_leq ?_) (fun h2 => ?_))) (fun h1 => ?_))))
 ·exact q_of q (decide_eq_decide.2 ⟨fun h => h.2.2.2, fun h => ⟨by omega, by omega, h2, h⟩⟩)
 ·exact q_of q (decide_eq_false fun h => h2 h.2.2.1)
 ·exact q_of q (decide_eq_false fun h => h1 (by omega))
abbrev blI (P : Mem) (n c : Int) (z : Ce) (b1 : Nat) : Nat → LS → Prop := fun k s => ∃ (i : Nat) (M' : Mem) (v : Value), s = grid_blanks_l1_s (.int .i64 c) v (.int .i64 n) (.int .i64 i) b1 (.int .i32 z.rune) (.int .i32 z.m1) (.int .i32 z.m2) (.int .u8 z.kind) (.int .u8 z.attr.a1) (.int .u8 z.attr.a2) (.int .u8 z.attr.a3) (.int .u8 z.attr.a4) (.int .u8 z.attr.a5) (.int .u8 z.attr.a6) (.int .u8 z.attr.a7) (.int .u8 z.attr.a8) (.int .u16 z.attr.a9) (.int .u8 z.label) [] M' ∧
 Ext P M' ∧ GrN P M' v (List.replicate i (List.replicate c.toNat z)) ∧ i ≤ n.toNat ∧ k = n.toNat - i
theorem blanks_W (hM : M.base ≤ M.size) {n c : Int} {z : Ce} (hn : n ≤ 2 ^ 10) (hc : c ≤ 2 ^ 10) (q : ∀ M' r, Ext M M' → GrN M M' r (List.replicate n.toNat (List.replicate c.toNat z)) → Q r M') : W funs known (.func (.func n_grid_blanks) #[] #[]) [.int .i64 n, .int .i64 c, z.val] M Q := by
 refine grid_blanks_wp hM ⟨rfl, fun b1 P hb1 hP => ?_⟩
 have eP : Ext M P := Ext.push' hP
 have sP : P.size = M.size + 1 := by rw [hP]; rfl
 have kP := eP.ok hM
 refine ⟨grid_blanks_l1_m, blI P n c z b1, ⟨n.toNat, 0, P, .slice none 0 0, rfl, Ext.refl _, ⟨[], .inr ⟨rfl, rfl⟩, by simp, rfl⟩, Nat.zero_le _, rfl⟩, ?_⟩
 rintro k s ⟨i, M', v, rfl, eM, nM, hi, rfl⟩
 refine grid_blanks_l1_wp (I := blI P n c z b1) (step_lss (wpIf.dec (fun g1 => ?_) (fun g1 => ?_)))
 ·refine new_W (eM.ok kP) (by omega) fun M3 x e3 n3 => ⟨e3.keep _, ?_⟩
  have e03 := eM.trans e3
  obtain ⟨l, M5, hl, e5, v7, M7, ha, e7, g7, _⟩ := appG (bytes := 24) (z := .slice none 0 0) e03 kP (nM.ext e3) (.inl (n3.old eM)) (by simp; omega) (by decide)
  have hb : b1 < P.size := by omega
  refine ⟨l, M5, hl, e5.keep _, v7, M7, ha, keepE hb (e03.trans e5) e7, step_add (by omega) (by omega) ⟨n.toNat - (i + 1), by omega, i + 1, M7, v7, rfl, e7, ?_, by omega, rfl⟩⟩
  rw [List.replicate_succ']; exact g7
 ·have : i = n.toNat := by omega
  subst this
  exact grid_blanks_l1_out (grid_blanks_c0_wp (q M' v (eP.trans eM) (nM.old eP)))
end
section
variable {M₀ M : Mem} {b rb C : Nat} {G : Gd} {Q : Value → Mem → Prop}
theorem Gp.of_rows (hb : M₀.size ≤ b) {rv : Value} (g : M.get b = some (.cells [rv, .int .i64 C] 95 true)) (h : GrN M₀ M rv G) (hc : ∀ L ∈ G, L.length = C) (c1 : 1 ≤ C) (c2 : C ≤ 512) (n1 : 1 ≤ G.length) (n2 : G.length ≤ 512) : ∃ rb, Gp M₀ M b rb C G ∧ blk rv = some rb := by
 obtain ⟨P, h1, h2, rfl⟩ := h
 have hl : P.row.length = P.length := by simp
 have n1' : 1 ≤ P.length := by simpa using n1
 rcases h1 with ⟨rb, sp, rfl, g1, hlt⟩ | ⟨h0, _⟩
 ·refine ⟨rb, ⟨P, sp, P.length, [], ⟨hb, hlt, by rw [hl] at g; exact g, by rw [List.append_nil]; exact g1, Nat.le_refl _, fun p hp => ?_, fun p hp => hc _ (List.mem_map_of_mem hp), c1, c2, n1', by simpa using n2⟩, rfl⟩, rfl⟩
  refine (h2 p hp).new fun h0 => ?_
  have := hc _ (List.mem_map_of_mem hp)
  rw [h0] at this
  simp only [List.length_nil] at this
  omega
 ·rw [h0] at hl; simp only [List.length_nil] at hl; omega
theorem gnew_W (hM : M.base ≤ M.size) {r c : Int} {z : Ce} (q0 : mayB r c = false → ∀ M', Ext M M' → Q (.pointer none) M') (q : mayB r c = true → ∀ M' b rb, Ext M M' → Gp M M' b rb c.toNat (List.replicate r.toNat (List.replicate c.toNat z)) → Q (.pointer (some ⟨b, 0, none⟩)) M') :
  W funs known (.func (.func n_grid_New) #[] #[]) [.int .i64 r, .int .i64 c, z.val] M Q := by
 refine grid_New_wp hM ⟨rfl, fun b1 M2 hb1 hM2 => may_W ((Ext.push' hM2).ok hM) ⟨KeepB.refl _ _, _, rfl, ?_⟩⟩
 have e2 : Ext M M2 := Ext.push' hM2
 have s2 : M2.size = M.size + 1 := by rw [hM2]; rfl
 cases hm : mayB r c with
 | false => exact wpIf.tt (q0 hm _ e2)
 | true =>
  have hmm : 1 ≤ r ∧ 1 ≤ c ∧ r ≤ 512 ∧ c ≤ 512 := of_decide_eq_true hm
  refine wpIf.ff ⟨.agg #[.slice none 0 0, .int .i64 c], rfl, rfl, fun b7 M8 hb7 hM8 => ?_⟩
  have e8 : Ext M2 M8 := Ext.push' hM8
  have s8 : M8.size = M2.size + 1 := by rw [hM8]; rfl
  have e08 := e2.trans e8
  have g8 : M8.get b7 = some (.cells [.slice none 0 0, .int .i64 c] 95 true) := by rw [hM8, Mem.get_push, if_pos hb7]; rfl
  refine blanks_W (e08.ok hM) (by omega) (by omega) fun M10 rv e10 n10 => ⟨e10.keep _, ?_⟩
  have g10 := e10.same g8
  obtain ⟨ad, cap, hrv⟩ := n10.gr.shape
  have lt7 := Mem.lt_of_get g10
  refine ⟨rv, by rw [hrv]; rfl, by rw [hrv]; rfl, by show 0 < 2; decide, fun M11 hM11 => ?_⟩
  have e010 := e08.trans e10
  have e11 : Ext M M11 := hM11 ▸ e010.set (by omega) lt7 _
  have g11 : M11.get b7 = some (.cells [rv, .int .i64 (c.toNat : Nat)] 95 true) := by
   rw [hM11, Mem.get_set _ _ _ lt7, if_pos rfl, show ((c.toNat : Nat) : Int) = c by omega]; rfl
  have t11 : Touch (fun x => x = b7) M10 M11 := by subst hM11; exact Touch.set (p := fun x => x = b7) (Touch.refl _ M10) rfl lt7 _
  have n11 : GrN M M11 rv (List.replicate r.toNat (List.replicate c.toNat z)) := by
   obtain ⟨P, h1, h2, h3⟩ := n10
   have hk : ∀ {ty : TypeId}, ty ≠ 95 → ∀ x, x = b7 → ∀ y w, M10.get x ≠ some (.cells y ty w) := fun {ty} hne x hx y w hy => by
    rw [hx, g10] at hy
    exact hne (AObj.cells.inj (Option.some.inj hy)).2.1.symm
   refine ⟨P, ?_, fun p hp => ?_, h3⟩
   ·exact (h1.old e08).imp (fun h => h.touch t11 (hk (by decide))) id
   ·exact ((h2 p hp).old e08).imp (fun h => h.touch t11 (hk (by decide))) id
  obtain ⟨rb, hG, _⟩ := Gp.of_rows (M₀ := M) (by omega) g11 n11 (fun L hL => by rw [(List.mem_replicate.1 hL).2, List.length_replicate]) (by omega) (by omega) (by rw [List.length_replicate]; omega) (by rw [List.length_replicate]; omega)
  exact q hm M11 b7 rb e11 hG
theorem size_W (hM : M.base ≤ M.size) (h : Gp M₀ M b rb C G) (q : Q (.tuple #[.int .i64 G.length, .int .i64 C]) M) : W funs known (.func (.func n_grid_Grid_Size) #[] #[]) [.pointer (some ⟨b, 0, none⟩)] M Q := by
 obtain ⟨P, sp, cap, rest, h1, rfl⟩ := h
 refine grid_Grid_Size_wp hM ⟨.bool false, rfl, wpIf.ff (g_rows h1.gb fun _ _ => step_len (g_cols h1.gb fun _ _ => ?_))⟩
 simpa using q
theorem is_W (hM : M.base ≤ M.size) (h : Gp M₀ M b rb C G) {i : Int} (q : Q (.bool (decide (0 ≤ i ∧ i < G.length))) M) : W funs known (.func (.func n_grid_Grid_is) #[] #[]) [.pointer (some ⟨b, 0, none⟩), .int .i64 i] M Q := by
 obtain ⟨P, sp, cap, rest, h1, rfl⟩ := h
 have hl : (P.map (·.2)).length = P.length := by simp
 rw [hl] at q
 refine grid_Grid_is_wp hM ⟨.bool true, rfl, wpIf.tt (step_geq (wpIf.dec (fun h0 => g_rows h1.gb fun _ _ => step_len (step_lss ?_)) (fun h0 => ?_)))⟩
 ·exact q_of q (decide_eq_decide.2 ⟨fun h => h.2, fun h => ⟨h0, h⟩⟩)
 ·exact q_of q (decide_eq_false fun h => h0 h.1)
abbrev posV (r c : Int) : Value := .agg #[.int .i64 r, .int .i64 c]
theorem rowG_some {G : Gd} {i : Int} (h0 : 0 ≤ i) {L : List Ce} (h : G[i.toNat]? = some L) : rowG G i = L := by
 unfold rowG; rw [if_pos h0, List.getD_eq_getElem?_getD, h]; rfl
theorem grow_row_W (hM : M.base ≤ M.size) (h : Gp M₀ M b rb C G) {i : Int} (q : ∀ M' v, Ext M M' → Mine 42 M M' v (rowG G i) → Q v M') : W funs known (.func (.func n_grid_Grid_Row) #[] #[]) [.pointer (some ⟨b, 0, none⟩), .int .i64 i] M Q := by
 refine grid_Grid_Row_wp hM (is_W hM h ⟨_, rfl, ?_⟩)
 obtain ⟨P, sp, cap, rest, h1, rfl⟩ := h
 by_cases g1 : 0 ≤ i ∧ i < (P.map (·.2)).length
 ·rw [decide_eq_true g1]
  obtain ⟨p, hp⟩ : ∃ p, P[i.toNat]? = some p := ⟨_, List.getElem?_eq_getElem (by rw [List.length_map] at g1; omega)⟩
  refine wpIf.ff (g_rows h1.gb fun _ _ => rdV h1.slN g1.1 (h1.row hp) fun _ => cloneC_W hM (h1.rows p (List.mem_of_getElem? hp)).sl (by rw [h1.cols p (List.mem_of_getElem? hp)]; have := h1.c2; omega) fun M' v e n => q M' v e ?_)
  rw [rowG_some g1.1 (L := p.2) (by rw [List.getElem?_map, hp]; rfl)]; exact n
 ·rw [decide_eq_false g1]
  refine wpIf.tt (q M _ (Ext.refl _) (.inr ⟨?_, rfl⟩))
  unfold rowG
  split
  ·rw [List.getD_eq_getElem?_getD, List.getElem?_eq_none (by omega)]; rfl
  ·rfl
def putG (G : Gd) (C : Nat) (r c : Int) (z : Ce) (wide : Bool) : Gd := atG G C r c fun L => putF L c z wide
def markG (G : Gd) (C : Nat) (r c : Int) (m l : Int) : Gd := atG G C r c fun L => markF L c m l
def insertG (G : Gd) (C : Nat) (r c : Int) (n : Int) (z : Ce) : Gd := atG G C r c fun L => insertF L c n z
def deleteG (G : Gd) (C : Nat) (r c : Int) (n : Int) (z : Ce) : Gd := atG G C r c fun L => deleteF L c n z
end
end Go.Proofs.Ytifemfnjoobiiaa.Run
