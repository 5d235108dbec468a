/- How rows of cells, and three whole numbers, are read. -/
import Derived.Test.YtifemfnjoobiiaaReads
namespace Go.Proofs.Ytifemfnjoobiiaa.Run
open Go Go.RowKit Go.ChangeShapes Go.WideShapes
set_option linter.unusedVariables false
set_option linter.unusedSimpArgs false
section
variable {H : Type} {enc : TypeId × Value → H} {w : World} {base : Nat} {spare : Nat → Bool} {held : Bool}
set_option maxRecDepth 100000 in
theorem cellsTwo : Cells enc Try.prog w base spare held 34 [isInt .i32, isInt .i32] := by
 rintro cs ⟨fuel, x, h⟩
 obtain ⟨xs, m, _, _, hl, hxl, hi⟩ := DataW.trod_array Try.underlying34 h
 have c34 : Try.prog.cellsOf 34 = 2 := by kernel_rfl
 have c21 : Try.prog.cellsOf 21 = 1 := by kernel_rfl
 rw [c34] at hl
 match cs, hl with
 | [a, b], _ =>
  have h0 := hi 0 (by omega)
  have h1 := hi 1 (by omega)
  rw [c21] at h0 h1
  rw [List.getElem?_eq_getElem (by omega)] at h0 h1
  have k0 : DataW.trod enc Try.prog w base spare held m 21 [a] = some _ := h0
  have k1 : DataW.trod enc Try.prog w base spare held m 21 [b] = some _ := h1
  obtain ⟨n, e0, _, w0⟩ := DataW.trod_int Try.underlying21 k0
  obtain ⟨z, e1, _, w1⟩ := DataW.trod_int Try.underlying21 k1
  cases e0; cases e1
  refine ⟨rfl, fun j v p hv hp => ?_⟩
  match j, hv, hp with
  | 0, hv, hp => cases hv; cases hp; exact ⟨n, rfl, w0⟩
  | 1, hv, hp => cases hv; cases hp; exact ⟨z, rfl, w1⟩
  | j + 2, hv, hp => simp at hv
theorem cellsColor : Cells enc Try.prog w base spare held 36 [isInt .u8, isInt .u8, isInt .u8, isInt .u8] :=
 Cells.struct Try.underlying36 (L := [(5, 0), (5, 1), (5, 2), (5, 3)]) rfl (.cons (.int Try.underlying5) (by kernel_rfl) (.cons (.int Try.underlying5) (by kernel_rfl) (.cons (.int Try.underlying5) (by kernel_rfl) (.cons (.int Try.underlying5) (by kernel_rfl) (.nil _))))) (by kernel_rfl)
theorem cellsAttr : Cells enc Try.prog w base spare held 39 [isInt .u8, isInt .u8, isInt .u8, isInt .u8, isInt .u8, isInt .u8, isInt .u8, isInt .u8, isInt .u16] :=
 Cells.struct Try.underlying39 (L := [(36, 0), (36, 4), (37, 8)]) rfl (.cons cellsColor (by kernel_rfl) (.cons cellsColor (by kernel_rfl) (.cons (.int Try.underlying37) (by kernel_rfl) (.nil _)))) (by kernel_rfl)
theorem cellsCe : Cells enc Try.prog w base spare held 42 [isInt .i32, isInt .i32, isInt .i32, isInt .u8, isInt .u8, isInt .u8, isInt .u8, isInt .u8, isInt .u8, isInt .u8, isInt .u8, isInt .u8, isInt .u16, isInt .u8] :=
 Cells.struct Try.underlying42 (L := [(21, 0), (34, 1), (5, 3), (39, 4), (40, 13)]) rfl (.cons (.int Try.underlying21) (by kernel_rfl) (.cons cellsTwo (by kernel_rfl) (.cons (.int Try.underlying5) (by kernel_rfl) (.cons cellsAttr (by kernel_rfl) (.cons (.int Try.underlying40) (by kernel_rfl) (.nil _)))))) (by kernel_rfl)
theorem readCe : ∀ cs, Reads enc Try.prog w base spare held 42 cs → ∃ a : Ce, cs.map (seeV w.heap.size) = (Enc.enc a).map some ∧ True := by
 intro cs h
 obtain ⟨hl, hf⟩ := cellsCe cs h
 match cs, hl with
 | [y0, y1, y2, y3, y4, y5, y6, y7, y8, y9, y10, y11, y12, y13], _ =>
  obtain ⟨n0, rfl, _⟩ := hf 0 _ _ rfl rfl
  obtain ⟨n1, rfl, _⟩ := hf 1 _ _ rfl rfl
  obtain ⟨n2, rfl, _⟩ := hf 2 _ _ rfl rfl
  obtain ⟨n3, rfl, _⟩ := hf 3 _ _ rfl rfl
  obtain ⟨n4, rfl, _⟩ := hf 4 _ _ rfl rfl
  obtain ⟨n5, rfl, _⟩ := hf 5 _ _ rfl rfl
  obtain ⟨n6, rfl, _⟩ := hf 6 _ _ rfl rfl
  obtain ⟨n7, rfl, _⟩ := hf 7 _ _ rfl rfl
  obtain ⟨n8, rfl, _⟩ := hf 8 _ _ rfl rfl
  obtain ⟨n9, rfl, _⟩ := hf 9 _ _ rfl rfl
  obtain ⟨n10, rfl, _⟩ := hf 10 _ _ rfl rfl
  obtain ⟨n11, rfl, _⟩ := hf 11 _ _ rfl rfl
  obtain ⟨n12, rfl, _⟩ := hf 12 _ _ rfl rfl
  obtain ⟨n13, rfl, _⟩ := hf 13 _ _ rfl rfl
  exact ⟨⟨n0, n1, n2, n3, ⟨n4, n5, n6, n7, n8, n9, n10, n11, n12⟩, n13⟩, rfl, trivial⟩
abbrev threeV (x y z : Int) : Value := .agg #[.int .i64 x, .int .i64 y, .int .i64 z]
theorem relThree {φ : Run.Loc} (x y z : Int) : VRel φ (threeV x y z) (threeV x y z) := relPlain (l := [.int .i64 x, .int .i64 y, .int .i64 z]) fun v hv => by
 simp only [List.mem_cons, List.not_mem_nil, or_false] at hv
 rcases hv with rfl | rfl | rfl <;> exact ⟨.int _ _, rfl⟩
set_option maxRecDepth 100000 in
theorem argThree {r : Reach} {b0 : Nat} {v : Value} {d : DataW H} {ps : List MemPlace} (hv : Value.okWide Try.prog w r b0 25 v) (h : DataW.Trod enc Try.prog w base spare held 25 v d ps) : ∃ x y z : Int, v = threeV x y z := by
 unfold Value.okWide at hv
 rw [Try.underlying25] at hv
 obtain ⟨cs, rfl, _⟩ := hv
 obtain ⟨fuel, hf⟩ := h
 have hf : DataW.trod enc Try.prog w base spare held fuel 25 cs.toList = some (d, ps) := hf
 obtain ⟨xs, m, _, _, hl, hxl, hi⟩ := DataW.trod_array Try.underlying25 hf
 have c25 : Try.prog.cellsOf 25 = 3 := by kernel_rfl
 have c3 : Try.prog.cellsOf 3 = 1 := by kernel_rfl
 rw [c25] at hl
 obtain ⟨cs⟩ := cs
 simp only at hl hi
 match cs, hl with
 | [x, y, z], _ =>
  have h0 := hi 0 (by omega)
  have h1 := hi 1 (by omega)
  have h2 := hi 2 (by omega)
  rw [c3] at h0 h1 h2
  rw [List.getElem?_eq_getElem (by omega)] at h0 h1 h2
  have k0 : DataW.trod enc Try.prog w base spare held m 3 [x] = some _ := h0
  have k1 : DataW.trod enc Try.prog w base spare held m 3 [y] = some _ := h1
  have k2 : DataW.trod enc Try.prog w base spare held m 3 [z] = some _ := h2
  obtain ⟨n0, e0, _, _⟩ := DataW.trod_int Try.underlying3 k0
  obtain ⟨n1, e1, _, _⟩ := DataW.trod_int Try.underlying3 k1
  obtain ⟨n2, e2, _, _⟩ := DataW.trod_int Try.underlying3 k2
  cases e0; cases e1; cases e2
  exact ⟨n0, n1, n2, rfl⟩
end
end Go.Proofs.Ytifemfnjoobiiaa.Run
