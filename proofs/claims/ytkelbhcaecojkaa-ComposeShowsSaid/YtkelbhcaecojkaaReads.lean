/- How the arguments of chapter 30's laws are read: drafts of tiles, a screen. -/
import Derived.Test.YtkelbhcaecojkaaTiles
import Derived.Test.YtkelbhcaecojkaaGlue
import Derived.Test.YtkelbhcaecojkaaProg
import Derived.WalkKit
import Derived.OpenShut
import Derived.ChangeSame
namespace Go.Proofs.Ytkelbhcaecojkaa.Run
open Go Go.RowKit Go.ChangeShapes Go.WideShapes
set_option linter.unusedVariables false
set_option linter.unusedSimpArgs false
theorem cell_has {P : Program} {w : World} {base : Nat} {r : Reach} {t e : TypeId} (ht : P.underlying t = some (.slice e)) {v : Value} (h : Cell.okWide P w r base t v) : ∀ a len cap, v = .slice (some a) len cap → a.spot = none ∧ a.block < w.heap.size := by
  rintro a len cap rfl
  simp only [ht, Cell.okWide, Cell.ok, World.has] at h
  obtain ⟨_, _, _, hs, row, cells, hsh, _⟩ := h
  refine ⟨hs, ?_⟩
  unfold World.shape? at hsh
  cases hg : w.heap[a.block]? with
  | none => rw [hg] at hsh; cases hsh
  | some o => exact (Array.getElem?_eq_some_iff.1 hg).1
section
variable {H : Type} {enc : TypeId × Value → H} {w : World} {base : Nat} {spare : Nat → Bool} {held : Bool}
theorem cellsDr : Cells enc Try.prog w base spare held 128 [isInt .u8, isInt .u8, isInt .u8, isBool, isBool] :=
  Cells.struct Try.underlying128 (L := [(5, 0), (5, 1), (5, 2), (4, 3), (4, 4)]) rfl (.cons (.int Try.underlying5) (by kernel_rfl) (.cons (.int Try.underlying5) (by kernel_rfl) (.cons (.int Try.underlying5) (by kernel_rfl) (.cons (.bool Try.underlying4) (by kernel_rfl) (.cons (.bool Try.underlying4) (by kernel_rfl) (.nil _)))))) (by kernel_rfl)
theorem readDr : ∀ cs, Reads enc Try.prog w base spare held 128 cs → ∃ a : Dr, cs.map (seeV w.heap.size) = (Enc.enc a).map some ∧ a.ok := by
  intro cs h
  obtain ⟨hl, hf⟩ := cellsDr cs h
  match cs, hl with
  | [y0, y1, y2, y3, y4], _ =>
    obtain ⟨n0, rfl, q0⟩ := hf 0 _ _ rfl rfl
    obtain ⟨n1, rfl, q1⟩ := hf 1 _ _ rfl rfl
    obtain ⟨n2, rfl, q2⟩ := hf 2 _ _ rfl rfl
    obtain ⟨n3, rfl⟩ := hf 3 _ _ rfl rfl
    obtain ⟨n4, rfl⟩ := hf 4 _ _ rfl rfl
    exact ⟨⟨n0, n1, n2, n3, n4⟩, rfl, wf_u8 q0, wf_u8 q1, wf_u8 q2⟩
def lnOK (w : World) (a : Ln) : Prop := ∃ D : List Dr, SlH (seeW w) a.v D ∧ ∀ d ∈ D, d.ok
theorem cellsLn : Cells enc Try.prog w base spare held 26 [isInt .u8, fun v => ∃ x, seeV w.heap.size v = some x ∧ ∃ L : List Dr, SlH (seeW w) x L ∧ ∀ a ∈ L, a.ok] :=
  Cells.struct Try.underlying26 (L := [(5, 0), (24, 1)]) rfl (.cons (.int Try.underlying5) (by kernel_rfl) (.cons (Cells.slice (α := Dr) Try.underlying24 (by kernel_rfl) (readDr (enc := enc))) (by kernel_rfl) (.nil _))) (by kernel_rfl)
theorem readLn : ∀ cs, Reads enc Try.prog w base spare held 26 cs → ∃ a : Ln, cs.map (seeV w.heap.size) = (Enc.enc a).map some ∧ lnOK w a := by
  intro cs h
  obtain ⟨hl, hf⟩ := cellsLn cs h
  match cs, hl with
  | [y0, y1], _ =>
    obtain ⟨n0, rfl, q0⟩ := hf 0 _ _ rfl rfl
    obtain ⟨x, hx, D, h1, h2⟩ := hf 1 _ _ rfl rfl
    refine ⟨⟨n0, x⟩, ?_, D, h1, h2⟩
    show [seeV _ _, seeV _ _] = _
    rw [hx]; rfl
theorem cellsDraft : Cells enc Try.prog w base spare held 73 [isInt .u8, fun v => ∃ x, seeV w.heap.size v = some x ∧ ∃ L : List Ln, SlH (seeW w) x L ∧ ∀ a ∈ L, lnOK w a] :=
  Cells.struct Try.underlying73 (L := [(5, 0), (71, 1)]) rfl (.cons (.int Try.underlying5) (by kernel_rfl) (.cons (Cells.slice (α := Ln) Try.underlying71 (by kernel_rfl) (readLn (enc := enc))) (by kernel_rfl) (.nil _))) (by kernel_rfl)
theorem cellsDf : Cells enc Try.prog w base spare held 75 [isInt .u8, isInt .u8, isInt .u8, isInt .u8, isInt .u8, fun v => ∃ x, seeV w.heap.size v = some x ∧ ∃ L : List Ln, SlH (seeW w) x L ∧ ∀ a ∈ L, lnOK w a] :=
  Cells.struct Try.underlying75 (L := [(5, 0), (5, 1), (5, 2), (5, 3), (73, 4)]) rfl (.cons (.int Try.underlying5) (by kernel_rfl) (.cons (.int Try.underlying5) (by kernel_rfl) (.cons (.int Try.underlying5) (by kernel_rfl) (.cons (.int Try.underlying5) (by kernel_rfl) (.cons cellsDraft (by kernel_rfl) (.nil _)))))) (by kernel_rfl)
theorem readDf : ∀ cs, Reads enc Try.prog w base spare held 75 cs → ∃ a : Df, cs.map (seeV w.heap.size) = (Enc.enc a).map some ∧ dfK (seeW w) a := by
  intro cs h
  obtain ⟨hl, hf⟩ := cellsDf cs h
  match cs, hl with
  | [y0, y1, y2, y3, y4, y5], _ =>
    obtain ⟨n0, rfl, q0⟩ := hf 0 _ _ rfl rfl
    obtain ⟨n1, rfl, q1⟩ := hf 1 _ _ rfl rfl
    obtain ⟨n2, rfl, q2⟩ := hf 2 _ _ rfl rfl
    obtain ⟨n3, rfl, q3⟩ := hf 3 _ _ rfl rfl
    obtain ⟨n4, rfl, q4⟩ := hf 4 _ _ rfl rfl
    obtain ⟨x, hx, L, h1, h2⟩ := hf 5 _ _ rfl rfl
    refine ⟨⟨n0, n1, n2, n3, n4, x⟩, ?_, ⟨wf_u8 q0, wf_u8 q1, wf_u8 q2, wf_u8 q3, wf_u8 q4⟩, L, h1, h2⟩
    show [seeV _ _, seeV _ _, seeV _ _, seeV _ _, seeV _ _, seeV _ _] = _
    rw [hx]; rfl
theorem s1Types : Try.prog.cellTypes Try.prog.depth 28 = some [5, 5, 5, 24] := by kernel_rfl
theorem s1_4 : Try.prog.cellsOf 28 = 4 := by kernel_rfl
set_option maxRecDepth 100000 in
theorem readS1 {r : Reach} {b0 : Nat} {v : Value} {d : DataW H} {ps : List MemPlace} (hv : Value.okWide Try.prog w r b0 28 v) (h : DataW.Trod enc Try.prog w base spare held 28 v d ps) :
    ∃ (y0 y1 y2 : Int) (s x : Value) (L : List Dr), v = .agg #[.int .u8 y0, .int .u8 y1, .int .u8 y2, s] ∧ (Lit.int .u8 y0).wf = true ∧ (Lit.int .u8 y1).wf = true ∧ (Lit.int .u8 y2).wf = true ∧ seeV w.heap.size s = some x ∧ Sl (seeW w) x L ∧ ∀ a ∈ L, a.ok := by
  unfold Value.okWide at hv
  rw [Try.underlying28] at hv
  obtain ⟨cs, rfl, hsz, ts, hts, _, hcell⟩ := hv
  rw [s1Types] at hts
  cases hts
  obtain ⟨fuel, hf⟩ := h
  obtain ⟨xs, n, _, _, hl, hxl, hg⟩ := DataW.trod_struct Try.underlying28 hf
  rw [s1_4] at hsz
  obtain ⟨l⟩ := cs
  match l, hsz with
  | [y, y', y'', s], _ =>
    have h0 := hg 0 _ rfl
    have h1 := hg 1 _ rfl
    have h2 := hg 2 _ rfl
    have x0 : xs[0]? = some (xs[0]'(by rw [hxl]; decide)) := List.getElem?_eq_getElem _
    have x1 : xs[1]? = some (xs[1]'(by rw [hxl]; decide)) := List.getElem?_eq_getElem _
    have x2 : xs[2]? = some (xs[2]'(by rw [hxl]; decide)) := List.getElem?_eq_getElem _
    obtain ⟨n0, hy0, _, hw0⟩ := DataW.trod_int Try.underlying5 (h0.trans x0)
    have hy0 : [y] = [Value.int .u8 n0] := hy0
    obtain ⟨n1, hy1, _, hw1⟩ := DataW.trod_int Try.underlying5 (h1.trans x1)
    have hy1 : [y'] = [Value.int .u8 n1] := hy1
    obtain ⟨zs, m, _, _, hzl, hzs, hz⟩ := DataW.trod_struct Try.underlying26 (h2.trans x2)
    have z0 := hz 0 _ rfl
    have z1 := hz 1 _ rfl
    have w0 : zs[0]? = some (zs[0]'(by rw [hzs]; decide)) := List.getElem?_eq_getElem _
    have w1 : zs[1]? = some (zs[1]'(by rw [hzs]; decide)) := List.getElem?_eq_getElem _
    obtain ⟨n2, hy2, _, hw2⟩ := DataW.trod_int Try.underlying5 (z0.trans w0)
    have hy2 : [y''] = [Value.int .u8 n2] := hy2
    cases hy0
    cases hy1
    cases hy2
    obtain ⟨u, hu, hc⟩ := hcell 3 s rfl
    cases hu
    obtain ⟨x, e, L, sl, ok⟩ := sl_of (α := Dr) (v := s) Try.underlying24 (by kernel_rfl) (readDr (enc := enc)) (cell_has Try.underlying24 hc) ⟨m, _, z1.trans w1⟩
    exact ⟨n0, n1, n2, s, x, L, rfl, hw0, hw1, hw2, e, sl, ok⟩
theorem relS1 {φ : Run.Loc} {y0 y1 y2 : Int} {s x : Value} (h : x.oneCell' = true ∧ VRel φ x s) : VRel φ (.agg #[.int .u8 y0, .int .u8 y1, .int .u8 y2, x]) (.agg #[.int .u8 y0, .int .u8 y1, .int .u8 y2, s]) :=
  .agg _ _ rfl (fun i a b ha hb => by
    match i, ha, hb with
    | 0, ha, hb => cases ha; cases hb; exact .int _ _
    | 1, ha, hb => cases ha; cases hb; exact .int _ _
    | 2, ha, hb => cases ha; cases hb; exact .int _ _
    | 3, ha, hb => cases ha; cases hb; exact h.2
    | n + 4, ha, hb => simp at ha) (by show (true && (true && (true && (x.oneCell' && true)))) = true; rw [h.1]; rfl)
end
end Go.Proofs.Ytkelbhcaecojkaa.Run
