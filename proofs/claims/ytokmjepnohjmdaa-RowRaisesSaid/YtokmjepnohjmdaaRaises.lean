/- The law RowRaises of chapter 10, as a run of this session's own interpreter. -/
import Derived.Test.YtokmjepnohjmdaaRowPB
import Derived.Test.YtokmjepnohjmdaaVcE
namespace Go.Proofs.Ytokmjepnohjmdaa.Run
open Go Go.RowKit
set_option linter.unusedVariables false
set_option linter.unusedSimpArgs false

theorem neqAtSame {P : Value → Prop} {a : At9} (p : P (.bool false)) : ∃ v, binV .neq 2 [0, 0, 0, 0, 0, 0, 0, 0, 0] (.agg a.cells.toArray) (.agg a.cells.toArray) = some v ∧ P v := by
  refine ⟨.bool false, ?_, p⟩
  obtain ⟨a5, a6, a7, a8, a9, a10, a11, a12, a13⟩ := a
  have h : eqV true [0, 0, 0, 0, 0, 0, 0, 0, 0] (.agg (At9.cells ⟨a5, a6, a7, a8, a9, a10, a11, a12, a13⟩).toArray) (.agg (At9.cells ⟨a5, a6, a7, a8, a9, a10, a11, a12, a13⟩).toArray) = some true := by
    show eqCells [0, 0, 0, 0, 0, 0, 0, 0, 0] _ _ = _
    refine Eq.trans (eqCells_int (eqCells_int (eqCells_int (eqCells_int (eqCells_int (eqCells_int (eqCells_int (eqCells_int (eqCells_int eqCells_nil))))))))) ?_
    simp
  show (eqV true _ _ _).bind (negIf .neq) = _
  rw [h]; rfl
theorem neqCeSame {P : Value → Prop} {a : Ce} (p : P (.bool false)) : ∃ v, binV .neq 2 sig14 a.val a.val = some v ∧ P v := step_neqCe (by simpa using p)

theorem joinF_01' {x l : Int} (h : x = 0 ∨ x = 1) : x ≤ joinF x l := by unfold joinF; split <;> omega
theorem joinF_r1 (x : Int) : joinF x 1 = 1 := by unfold joinF; rw [if_pos (.inr (by omega))]
theorem joinF_r0 {x : Int} (h : x = 0 ∨ x = 1) : joinF x 0 = x := by unfold joinF; split <;> omega
theorem joinF_l0 {x : Int} (h : x = 0 ∨ x = 1) : joinF 0 x = x := by unfold joinF; split <;> omega
def upC (c d : Ce) : Prop := c.label ≤ d.label ∧ d.rune = c.rune ∧ d.kind = c.kind ∧ d.attr = c.attr
theorem upC.rfl' (c : Ce) : upC c c := ⟨Int.le_refl _, rfl, rfl, rfl⟩
theorem up_set {L K : List Ce} (h : Two upC L K) {i : Nat} {c d : Ce} (hc : L[i]? = some c) (r : upC c d) : Two upC L (K.set i d) := by
  have := h.set i (c := c) (d := d) r
  have e : L.set i c = L := by
    obtain ⟨_, rfl⟩ := List.getElem?_eq_some_iff.1 hc
    exact List.set_getElem_self _
  rwa [e] at this
theorem up_markAt {L : List Ce} (lb : Lb L) (i : Nat) (m l : Int) : Two upC L (markAt L i m l) := by
  have h0 : Two upC L L := Two.refl fun c _ => upC.rfl' c
  unfold markAt
  split
  · exact h0
  rename_i c hc
  split
  · exact h0
  obtain ⟨k1, k2, k3, k4⟩ := Ce.mark_kind c m
  have r1 : upC c (c.marked m l) := ⟨by rw [marked_label]; exact joinF_01' (lb c (List.mem_of_getElem? hc)), k3, k1, k4⟩
  have s1 := up_set h0 hc r1
  split
  · split
    · rename_i d hd
      exact up_set s1 hd ⟨joinF_01' (lb d (List.mem_of_getElem? hd)), rfl, rfl, rfl⟩
    · exact s1
  · exact s1
theorem up_mark {L : List Ce} (lb : Lb L) (x m l : Int) : Two upC L (markF L x m l) := by
  have h0 : Two upC L L := Two.refl fun c _ => upC.rfl' c
  unfold markF
  split
  · exact h0
  split
  · exact h0
  split
  · exact up_markAt lb _ _ _
  · exact up_markAt lb _ _ _
theorem raise1 (c : Ce) : c.raise 1 = { c with label := 1 } := by unfold Ce.raise; rw [joinF_r1]
theorem raise0 {L : List Ce} (lb : Lb L) : L.map (Ce.raise 0) = L := by
  conv => rhs; rw [← List.map_id L]
  refine List.map_congr_left fun c hc => ?_
  show Ce.raise 0 c = c
  unfold Ce.raise
  rw [joinF_r0 (lb c hc)]
theorem level_one {L : List Ce} (lb : Lb L) {i : Nat} {c : Ce} (hc : L[i]? = some c) : levelF L (i : Int) ((i : Int) + 1) = c.label := by
  have hi := (List.getElem?_eq_some_iff.1 hc).1
  unfold levelF
  rw [clampN_nat (by omega), show ((i : Int) + 1) = ((i + 1 : Nat) : Int) by omega, clampN_nat (by omega), List.take_add_one, hc, Option.toList_some, List.drop_append_of_le_length (by rw [List.length_take]; omega), List.drop_of_length_le (by rw [List.length_take]; omega)]
  exact joinF_l0 (lb c (List.mem_of_getElem? hc))
theorem level_none (L : List Ce) (x : Int) : levelF L x x = 0 := by
  unfold levelF
  rw [List.drop_of_length_le (by rw [List.length_take]; omega)]; rfl
theorem joins_1 (L : List Ce) : joinsF 1 L = 1 := by
  induction L with
  | nil => rfl
  | cons c L ih => show joinsF (joinF 1 c.label) L = 1; rw [joinF_1]; exact ih
theorem level_up {L : List Ce} (h0 : 0 < L.length) (h1 : L.length ≤ 99) : levelF (L.map (Ce.raise 1)) 0 99 = 1 := by
  unfold levelF
  have e1 : clampN 0 (L.map (Ce.raise 1)).length = 0 := by unfold clampN; omega
  have e2 : clampN 99 (L.map (Ce.raise 1)).length = (L.map (Ce.raise 1)).length := by unfold clampN; rw [List.length_map]; omega
  rw [e1, e2, List.take_length, List.drop_zero]
  match L, h0 with
  | c :: L, _ =>
    show joinsF (joinF 0 (c.raise 1).label) _ = 1
    rw [raise1]
    exact joins_1 _

section
variable {M : Mem} {Q : Value → Mem → Prop}
theorem works_W'' {M : Mem} (h : Q (.bool true) M) : W funs known (.func (.func n_law10_works) #[] #[]) [] M Q := W_known rfl h

abbrev r1I (P : Mem) (n : Nat) (r up : Value) (b1 : Nat) (cv dv : Value) (b3 : Nat) (a : Ac) : Nat → LS → Prop := fun k s => ∃ (i : Nat) (M' : Mem), s = law10_RowRaises_l1_s r up (.int .i64 i) b1 cv dv b3 (.int .u8 a.what) (.int .u8 a.pos) (.int .u8 a.n) (.bool a.wide) (.int .u8 a.d.rune) (.int .u8 a.d.marks) (.int .u8 a.d.attr) (.bool a.d.wide) (.bool a.d.high) [] M' ∧ Ext P M' ∧ i ≤ n ∧ k = n - i
abbrev r4I (M' : Mem) (n : Nat) (r nx : Value) (b1 : Nat) (cv dv : Value) (b3 : Nat) (a : Ac) : Nat → LS → Prop := fun k s => ∃ (i : Nat), s = law10_RowRaises_l4_s r nx (.int .i64 i) b1 cv dv b3 (.int .u8 a.what) (.int .u8 a.pos) (.int .u8 a.n) (.bool a.wide) (.int .u8 a.d.rune) (.int .u8 a.d.marks) (.int .u8 a.d.attr) (.bool a.d.wide) (.bool a.d.high) [] M' ∧ i ≤ n ∧ k = n - i

set_option maxHeartbeats 2000000 in
theorem raises_W (hM : M.base ≤ M.size) {c : Int} (hc : 0 ≤ c ∧ c ≤ 255) {dv : Value} {D : List Dr} {a : Ac} (hD : Sl M dv D) (okD : ∀ d ∈ D, d.ok) (ok : a.ok) (q : ∀ M', Q (.bool true) M') :
    W funs known (.func (.func n_law10_RowRaises) #[] #[]) [.agg #[.int .u8 c, dv], a.val] M Q := by
  obtain ⟨a0, c0, rfl⟩ := hD.shape
  refine law10_RowRaises_wp hM ⟨rfl, fun b1 M2 hb1 hM2 => ⟨rfl, fun b3 P hb3 hP => works_W'' ⟨KeepB.refl _ _, _, rfl, wpIf.ff ?_⟩⟩⟩
  have e2 : Ext M M2 := Ext.push' hM2
  have s2 : M2.size = M.size + 1 := by rw [hM2]; rfl
  have eP : Ext M P := e2.trans (Ext.push' hP)
  have sP : P.size = M2.size + 1 := by rw [hP]; rfl
  have kP := eP.ok hM
  refine row_W kP hc (hD.ext eP) okD fun M9 r e9 n9 => ⟨e9.keep _, ?_⟩
  have lb := (row_ok c D []).2
  have hlen : (rowF c D []).length ≤ 30 := by rw [rowF_len]; omega
  generalize rowF c D [] = L at n9 lb hlen
  have k9 := e9.ok kP
  refine raise_W k9 n9.sl (by omega) fun M11 up e11 n11 => ⟨e11.keep _, ?_⟩
  have e011 := e9.trans e11
  have n9 : Mine 37 P M11 r L := n9.ext e11
  refine ⟨law10_RowRaises_l1_m, r1I M11 L.length r up b1 (.int .u8 c) (.slice a0 D.length c0) b3 a, ⟨L.length, 0, M11, rfl, Ext.refl _, Nat.zero_le _, rfl⟩, ?_⟩
  rintro k s ⟨i, M', rfl, eM, hi, rfl⟩
  refine law10_RowRaises_l1_wp (I := r1I M11 L.length r up b1 (.int .u8 c) (.slice a0 D.length c0) b3 a) ?_
  have slr := n9.sl.ext eM
  have slu := n11.sl.ext eM
  have eP' := e011.trans eM
  refine step_lenS slr (step_lss (wpIf.dec (fun h1 => ?_) (fun h1 => ?_)))
  · obtain ⟨x, hx⟩ : ∃ x, L[i]? = some x := ⟨_, List.getElem?_eq_getElem (by omega)⟩
    refine rd slr (by omega) (by rw [Int.toNat_natCast]; exact hx) fun _ => ⟨rfl, fun b5 M6 hb5 hM6 => ⟨⟨rfl, rfl, by decide⟩, fun M7 hM7 => ⟨_, rfl, rfl, by exact Nat.lt_of_lt_of_le (by decide) (Nat.le_refl 14), fun M8 hM8 => ?_⟩⟩⟩
    have f6 : Ext M' M6 := Ext.push' hM6
    have s6 : M6.size = M'.size + 1 := by rw [hM6]; rfl
    have f7 : Ext M' M7 := hM7 ▸ f6.set (by omega) (by omega) _
    have s7 : M7.size = M6.size := by rw [hM7]; rfl
    have f8 : Ext M' M8 := hM8 ▸ f7.set (by omega) (by omega) _
    have hux : (L.map (Ce.raise 1))[i]? = some ({ x with label := 1 } : Ce) := by rw [List.getElem?_map, hx, Option.map_some, raise1]
    refine step_lenS (slu.ext f8) (s_geF (by rw [List.length_map]; omega) (wpIf.ff ?_))
    refine rd (slu.ext f8) (by omega) (by rw [Int.toNat_natCast]; exact hux) fun _ => LGetN.as ({ x with label := 1 } : Ce).val (by exact Nat.le_refl 14) rfl (neqCeSame (wpIf.ff (step_add (by omega) (by omega) ?_)))
    refine level_W (freeze_ok _) (slr.ext f8).freeze (by omega) fun M18 e18 => ⟨e18.keepF _, ?_⟩
    have f18 := f8.trans (Ext.thaw e18)
    rw [level_one lb hx]
    refine rd_f (a := x) (slr.ext f18) (by omega) (by rw [Int.toNat_natCast]; exact hx) (f := 13) rfl fun _ _ => s_neF (not_not_intro rfl) (wpIf.ff (step_add (by omega) (by omega) ⟨L.length - (i + 1), by omega, i + 1, _, rfl, eM.trans f18, by omega, rfl⟩))
  refine blockK.hit (law10_RowRaises_c0_wp ?_)
  have k1 := eP'.ok kP
  refine raise_W k1 slr (by omega) fun N2 z f2 m2 => ⟨f2.keep _, ?_⟩
  rw [raise0 lb] at m2
  refine same_W (f2.ok k1) m2.sl (slr.ext f2) (by omega) ⟨KeepB.refl _ _, _, rfl, ?_⟩
  rw [decide_eq_true (rfl : L = L)]
  refine wpIf.ff (step_lenS (slr.ext f2) ?_)
  have k2 := f2.ok k1
  refine step_gtr (wpIf.dec (fun h2 => ?_) (fun h2 => ?_))
  · refine level_W k2 (slu.ext f2) (by rw [List.length_map]; omega) fun N9 f9 => ⟨f9.keep _, ?_⟩
    rw [level_up (by omega) (by omega)]
    refine s_neF (not_not_intro rfl) (wpIf.ff (level_W (f9.ok k2) ((slr.ext f2).ext f9) (by omega) fun N12 f12 => ⟨f12.keep _, ?_⟩))
    rw [level_none]
    refine s_neF (not_not_intro rfl) (wpIf.ff ?_)
    have eT := ((eP'.trans f2).trans f9).trans f12
    have eT0 := eP.trans eT
    have nT : Mine 37 P N12 r L := (((n9.ext eM).ext f2).ext f9).ext f12
    refine law10_RowRaises_c2_wp ⟨_, rfl, rfl, by decide, fun N1 hN1 => ?_⟩
    have g1 : Ext M N1 := hN1 ▸ eT0.set (b := b3) (by omega) (by have := eT0.size; have := eT.size; omega) _
    have sN1 : N1.size = N12.size := by rw [hN1]; rfl
    have slN : Sl N1 r L := by
      have := (nT.both (b := b3) (by omega) (.cells (Enc.enc ({ a with what := 11 } : Ac)) 50 true))
      exact (hN1 ▸ this.sl : Sl N1 r L)
    have ok11 : ({ a with what := 11 } : Ac).ok := ⟨by simp, ok.pos, ok.n, ok.d⟩
    refine does_W (a := { a with what := 11 }) (g1.ok hM) ok11 slN (by omega) fun N4 nx f4 m4 => ⟨f4.keep _, ?_⟩
    have hdo : doesF { a with what := 11 } L = markF L (atF { a with what := 11 } L.length) 769 (cellF a.d).label := by
      unfold doesF
      rw [if_neg (by simp), if_neg (by simp), if_neg (by simp), if_neg (by simp), if_pos (by simp)]
    have hu := up_mark lb (atF { a with what := 11 } L.length) 769 (cellF a.d).label
    rw [← hdo] at hu
    generalize doesF { a with what := 11 } L = K at m4 hu
    have hKl := hu.len
    refine step_lenS m4.sl (step_lenS slN (s_neF (by omega) (wpIf.ff ?_)))
    refine ⟨law10_RowRaises_l4_m, r4I N4 L.length r nx b1 (.int .u8 c) (.slice a0 D.length c0) b3 { a with what := 11 }, ⟨L.length, 0, rfl, Nat.zero_le _, rfl⟩, ?_⟩
    rintro k s ⟨i, rfl, hi, rfl⟩
    refine law10_RowRaises_l4_wp (I := r4I N4 L.length r nx b1 (.int .u8 c) (.slice a0 D.length c0) b3 { a with what := 11 }) ?_
    have sl := slN.ext f4
    refine step_lenS sl (step_lss (wpIf.dec (fun w1 => ?_) (fun w1 => ?_)))
    · obtain ⟨x, hx⟩ : ∃ x, L[i]? = some x := ⟨_, List.getElem?_eq_getElem (by omega)⟩
      obtain ⟨y, hy, ⟨y1, y2, y3, y4⟩⟩ := hu.get hx
      refine rd_f (a := y) m4.sl (by omega) (by rw [Int.toNat_natCast]; exact hy) (f := 13) rfl fun _ _ => rd_f (a := x) sl (by omega) (by rw [Int.toNat_natCast]; exact hx) (f := 13) rfl fun _ _ => s_ltF (by omega) (wpIf.ff ?_)
      refine rd_f (a := y) m4.sl (by omega) (by rw [Int.toNat_natCast]; exact hy) (f := 0) rfl fun _ _ => rd_f (a := x) sl (by omega) (by rw [Int.toNat_natCast]; exact hx) (f := 0) rfl fun _ _ => s_neF (by omega) (wpIf.ff ?_)
      refine rd_f (a := y) m4.sl (by omega) (by rw [Int.toNat_natCast]; exact hy) (f := 3) rfl fun _ _ => rd_f (a := x) sl (by omega) (by rw [Int.toNat_natCast]; exact hx) (f := 3) rfl fun _ _ => s_neF (by omega) (wpIf.ff ?_)
      refine rd_fs (a := y) m4.sl (by omega) (by rw [Int.toNat_natCast]; exact hy) (f := 4) (n := 9) (l := x.attr.cells) (by rw [← y4]; rfl) (by decide) fun _ _ => rd_fs (a := x) sl (by omega) (by rw [Int.toNat_natCast]; exact hx) (f := 4) (n := 9) (l := x.attr.cells) rfl (by decide) fun _ _ => neqAtSame (wpIf.ff ?_)
      exact step_add (by omega) (by omega) ⟨L.length - (i + 1), by omega, i + 1, rfl, by omega, rfl⟩
    · exact blockK.hit (law10_RowRaises_c3_wp (q _))
  · refine level_W k2 (slr.ext f2) (by omega) fun N12 f12 => ⟨f12.keep _, ?_⟩
    rw [level_none]
    refine s_neF (not_not_intro rfl) (wpIf.ff ?_)
    have eT := (eP'.trans f2).trans f12
    have eT0 := eP.trans eT
    have nT : Mine 37 P N12 r L := ((n9.ext eM).ext f2).ext f12
    refine law10_RowRaises_c2_wp ⟨_, rfl, rfl, by decide, fun N1 hN1 => ?_⟩
    have g1 : Ext M N1 := hN1 ▸ eT0.set (b := b3) (by omega) (by have := eT0.size; have := eT.size; omega) _
    have sN1 : N1.size = N12.size := by rw [hN1]; rfl
    have slN : Sl N1 r L := by
      have := (nT.both (b := b3) (by omega) (.cells (Enc.enc ({ a with what := 11 } : Ac)) 50 true))
      exact (hN1 ▸ this.sl : Sl N1 r L)
    have ok11 : ({ a with what := 11 } : Ac).ok := ⟨by simp, ok.pos, ok.n, ok.d⟩
    refine does_W (a := { a with what := 11 }) (g1.ok hM) ok11 slN (by omega) fun N4 nx f4 m4 => ⟨f4.keep _, ?_⟩
    have hdo : doesF { a with what := 11 } L = markF L (atF { a with what := 11 } L.length) 769 (cellF a.d).label := by
      unfold doesF
      rw [if_neg (by simp), if_neg (by simp), if_neg (by simp), if_neg (by simp), if_pos (by simp)]
    have hu := up_mark lb (atF { a with what := 11 } L.length) 769 (cellF a.d).label
    rw [← hdo] at hu
    generalize doesF { a with what := 11 } L = K at m4 hu
    have hKl := hu.len
    refine step_lenS m4.sl (step_lenS slN (s_neF (by omega) (wpIf.ff ?_)))
    refine ⟨law10_RowRaises_l4_m, r4I N4 L.length r nx b1 (.int .u8 c) (.slice a0 D.length c0) b3 { a with what := 11 }, ⟨L.length, 0, rfl, Nat.zero_le _, rfl⟩, ?_⟩
    rintro k s ⟨i, rfl, hi, rfl⟩
    refine law10_RowRaises_l4_wp (I := r4I N4 L.length r nx b1 (.int .u8 c) (.slice a0 D.length c0) b3 { a with what := 11 }) ?_
    have sl := slN.ext f4
    refine step_lenS sl (step_lss (wpIf.dec (fun w1 => ?_) (fun w1 => ?_)))
    · obtain ⟨x, hx⟩ : ∃ x, L[i]? = some x := ⟨_, List.getElem?_eq_getElem (by omega)⟩
      obtain ⟨y, hy, ⟨y1, y2, y3, y4⟩⟩ := hu.get hx
      refine rd_f (a := y) m4.sl (by omega) (by rw [Int.toNat_natCast]; exact hy) (f := 13) rfl fun _ _ => rd_f (a := x) sl (by omega) (by rw [Int.toNat_natCast]; exact hx) (f := 13) rfl fun _ _ => s_ltF (by omega) (wpIf.ff ?_)
      refine rd_f (a := y) m4.sl (by omega) (by rw [Int.toNat_natCast]; exact hy) (f := 0) rfl fun _ _ => rd_f (a := x) sl (by omega) (by rw [Int.toNat_natCast]; exact hx) (f := 0) rfl fun _ _ => s_neF (by omega) (wpIf.ff ?_)
      refine rd_f (a := y) m4.sl (by omega) (by rw [Int.toNat_natCast]; exact hy) (f := 3) rfl fun _ _ => rd_f (a := x) sl (by omega) (by rw [Int.toNat_natCast]; exact hx) (f := 3) rfl fun _ _ => s_neF (by omega) (wpIf.ff ?_)
      refine rd_fs (a := y) m4.sl (by omega) (by rw [Int.toNat_natCast]; exact hy) (f := 4) (n := 9) (l := x.attr.cells) (by rw [← y4]; rfl) (by decide) fun _ _ => rd_fs (a := x) sl (by omega) (by rw [Int.toNat_natCast]; exact hx) (f := 4) (n := 9) (l := x.attr.cells) rfl (by decide) fun _ _ => neqAtSame (wpIf.ff ?_)
      exact step_add (by omega) (by omega) ⟨L.length - (i + 1), by omega, i + 1, rfl, by omega, rfl⟩
    · exact blockK.hit (law10_RowRaises_c3_wp (q _))
end
end Go.Proofs.Ytokmjepnohjmdaa.Run
