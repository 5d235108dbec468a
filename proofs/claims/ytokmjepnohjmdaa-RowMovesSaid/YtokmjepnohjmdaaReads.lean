/- How the arguments of chapter 10's laws are read: drafts, acts, lines. -/
import Derived.Test.YtokmjepnohjmdaaRowJ
import Derived.Test.YtokmjepnohjmdaaGlue
import Derived.Test.YtokmjepnohjmdaaProg
import Derived.WalkKit
import Derived.OpenShut
import Derived.ChangeSame
namespace Go.Proofs.Ytokmjepnohjmdaa.Run
open Go Go.RowKit Go.ChangeShapes Go.WideShapes
set_option linter.unusedVariables false
set_option linter.unusedSimpArgs false

theorem cell_has {P : Program} {w : World} {base : Nat} {r : Reach} {t e : TypeId} (ht : P.underlying t = some (.slice e)) {v : Value} (h : Cell.okWide P w r base t v) : ∀ a len cap, v = .slice (some a) len cap → a.spot = none ∧ a.block < w.heap.size := by
  rintro a len cap rfl
  simp only [ht, Cell.okWide, Cell.ok, World.has] at h
  obtain ⟨_, _, _, hs, row, cells, hsh, _⟩ := h
  refine ⟨hs, ?_⟩
  unfold World.shape? at hsh
  cases hg : w.heap[a.block]? with
  | none => rw [hg] at hsh; cases hsh
  | some o => exact (Array.getElem?_eq_some_iff.1 hg).1

section
variable {H : Type} {enc : TypeId × Value → H} {w : World} {base : Nat} {spare : Nat → Bool} {held : Bool}
theorem readDr : ∀ cs, Reads enc Try.prog w base spare held 48 cs → ∃ a : Dr, cs.map (seeV w.heap.size) = (Enc.enc a).map some ∧ a.ok := by
  intro cs h
  have hC : Cells enc Try.prog w base spare held 48 [isInt .u8, isInt .u8, isInt .u8, isBool, isBool] :=
    Cells.struct Try.underlying48 (L := [(5, 0), (5, 1), (5, 2), (4, 3), (4, 4)]) rfl (.cons (.int Try.underlying5) (by kernel_rfl) (.cons (.int Try.underlying5) (by kernel_rfl) (.cons (.int Try.underlying5) (by kernel_rfl) (.cons (.bool Try.underlying4) (by kernel_rfl) (.cons (.bool Try.underlying4) (by kernel_rfl) (.nil _)))))) (by kernel_rfl)
  obtain ⟨hl, hf⟩ := hC cs h
  match cs, hl with
  | [y0, y1, y2, y3, y4], _ =>
    obtain ⟨n0, rfl, q0⟩ := hf 0 _ _ rfl rfl
    obtain ⟨n1, rfl, q1⟩ := hf 1 _ _ rfl rfl
    obtain ⟨n2, rfl, q2⟩ := hf 2 _ _ rfl rfl
    obtain ⟨n3, rfl⟩ := hf 3 _ _ rfl rfl
    obtain ⟨n4, rfl⟩ := hf 4 _ _ rfl rfl
    exact ⟨⟨n0, n1, n2, n3, n4⟩, rfl, wf_u8 q0, wf_u8 q1, wf_u8 q2⟩
theorem cellsAc : Cells enc Try.prog w base spare held 50 [isInt .u8, isInt .u8, isInt .u8, isBool, isInt .u8, isInt .u8, isInt .u8, isBool, isBool] := by
  have hD : Cells enc Try.prog w base spare held 48 [isInt .u8, isInt .u8, isInt .u8, isBool, isBool] :=
    Cells.struct Try.underlying48 (L := [(5, 0), (5, 1), (5, 2), (4, 3), (4, 4)]) rfl (.cons (.int Try.underlying5) (by kernel_rfl) (.cons (.int Try.underlying5) (by kernel_rfl) (.cons (.int Try.underlying5) (by kernel_rfl) (.cons (.bool Try.underlying4) (by kernel_rfl) (.cons (.bool Try.underlying4) (by kernel_rfl) (.nil _)))))) (by kernel_rfl)
  exact Cells.struct Try.underlying50 (L := [(5, 0), (5, 1), (5, 2), (4, 3), (48, 4)]) rfl (.cons (.int Try.underlying5) (by kernel_rfl) (.cons (.int Try.underlying5) (by kernel_rfl) (.cons (.int Try.underlying5) (by kernel_rfl) (.cons (.bool Try.underlying4) (by kernel_rfl) (.cons (gs := []) hD (by kernel_rfl) (.nil _)))))) (by kernel_rfl)
theorem acOf {cs : List Value} (h : Reads enc Try.prog w base spare held 50 cs) : ∃ a : Ac, cs = Enc.enc a ∧ a.ok := by
  obtain ⟨hl, hf⟩ := cellsAc cs h
  match cs, hl with
  | [y0, y1, y2, y3, y4, y5, y6, y7, y8], _ =>
    obtain ⟨n0, rfl, q0⟩ := hf 0 _ _ rfl rfl
    obtain ⟨n1, rfl, q1⟩ := hf 1 _ _ rfl rfl
    obtain ⟨n2, rfl, q2⟩ := hf 2 _ _ rfl rfl
    obtain ⟨n3, rfl⟩ := hf 3 _ _ rfl rfl
    obtain ⟨n4, rfl, q4⟩ := hf 4 _ _ rfl rfl
    obtain ⟨n5, rfl, q5⟩ := hf 5 _ _ rfl rfl
    obtain ⟨n6, rfl, q6⟩ := hf 6 _ _ rfl rfl
    obtain ⟨n7, rfl⟩ := hf 7 _ _ rfl rfl
    obtain ⟨n8, rfl⟩ := hf 8 _ _ rfl rfl
    exact ⟨⟨n0, n1, n2, n3, ⟨n4, n5, n6, n7, n8⟩⟩, rfl, wf_u8 q0, wf_u8 q1, wf_u8 q2, wf_u8 q4, wf_u8 q5, wf_u8 q6⟩
theorem readAc : ∀ cs, Reads enc Try.prog w base spare held 50 cs → ∃ a : Ac, cs.map (seeV w.heap.size) = (Enc.enc a).map some ∧ a.ok := by
  intro cs h
  obtain ⟨a, rfl, ok⟩ := acOf h
  exact ⟨a, rfl, ok⟩

theorem lineTypes : Try.prog.cellTypes Try.prog.depth 24 = some [5, 22] := by kernel_rfl
theorem line2 : Try.prog.cellsOf 24 = 2 := by kernel_rfl
/-- a line: a number, and a row of drafts -/
theorem readLine {r : Reach} {b0 : Nat} {v : Value} {d : DataW H} {ps : List MemPlace} (hv : Value.okWide Try.prog w r b0 24 v) (h : DataW.Trod enc Try.prog w base spare held 24 v d ps) :
    ∃ (y0 : Int) (s x : Value) (L : List Dr), v = .agg #[.int .u8 y0, s] ∧ (Lit.int .u8 y0).wf = true ∧ seeV w.heap.size s = some x ∧ Sl (seeW w) x L ∧ ∀ a ∈ L, a.ok := by
  unfold Value.okWide at hv
  rw [Try.underlying24] at hv
  obtain ⟨cs, rfl, hsz, ts, hts, _, hcell⟩ := hv
  rw [lineTypes] at hts
  cases hts
  obtain ⟨fuel, hf⟩ := h
  obtain ⟨xs, n, _, _, hl, hxl, hg⟩ := DataW.trod_struct Try.underlying24 hf
  rw [line2] at hsz
  obtain ⟨l⟩ := cs
  match l, hsz with
  | [y, s], _ =>
    have h0 := hg 0 _ rfl
    have h1 := hg 1 _ rfl
    have x0 : xs[0]? = some (xs[0]'(by rw [hxl]; decide)) := List.getElem?_eq_getElem _
    have x1 : xs[1]? = some (xs[1]'(by rw [hxl]; decide)) := List.getElem?_eq_getElem _
    obtain ⟨n0, hy, _, hw⟩ := DataW.trod_int Try.underlying5 (h0.trans x0)
    have hy : [y] = [Value.int .u8 n0] := hy
    cases hy
    obtain ⟨u, hu, hc⟩ := hcell 1 s rfl
    cases hu
    obtain ⟨x, e, L, sl, ok⟩ := sl_of (α := Dr) (v := s) Try.underlying22 (by kernel_rfl) (readDr (enc := enc)) (cell_has Try.underlying22 hc) ⟨n, _, h1.trans x1⟩
    exact ⟨n0, s, x, L, rfl, hw, e, sl, ok⟩
theorem relLine {φ : Run.Loc} {y0 : Int} {s x : Value} (h : x.oneCell' = true ∧ VRel φ x s) : VRel φ (.agg #[.int .u8 y0, x]) (.agg #[.int .u8 y0, s]) :=
  .agg _ _ rfl (fun i a b ha hb => by
    match i, ha, hb with
    | 0, ha, hb => cases ha; cases hb; exact .int _ _
    | 1, ha, hb => cases ha; cases hb; exact h.2
    | n + 2, ha, hb => simp at ha) (by show (true && (x.oneCell' && true)) = true; rw [h.1]; rfl)
theorem relPlain {φ : Run.Loc} {l : List Value} (h : ∀ v ∈ l, VRel φ v v ∧ v.oneCell' = true) : VRel φ (.agg l.toArray) (.agg l.toArray) :=
  .agg _ _ rfl (fun i x y hx hy => by
    rw [hx] at hy; cases hy
    exact (h x (List.mem_of_getElem? (by simpa using hx))).1) (List.all_eq_true.2 fun v hv => (h v hv).2)
theorem relAc {φ : Run.Loc} (a : Ac) : VRel φ a.val a.val := relPlain fun v hv => by
  simp only [Enc.enc, List.mem_cons, List.not_mem_nil, or_false] at hv
  rcases hv with rfl | rfl | rfl | rfl | rfl | rfl | rfl | rfl | rfl
  all_goals first | exact ⟨.int _ _, rfl⟩ | exact ⟨.bool _, rfl⟩
theorem argAc {r : Reach} {b0 : Nat} {v : Value} {d : DataW H} {ps : List MemPlace} (hv : Value.okWide Try.prog w r b0 50 v) (h : DataW.Trod enc Try.prog w base spare held 50 v d ps) : ∃ a : Ac, v = a.val ∧ a.ok := by
  unfold Value.okWide at hv
  rw [Try.underlying50] at hv
  obtain ⟨cs, rfl, _, _⟩ := hv
  obtain ⟨fuel, hf⟩ := h
  obtain ⟨a, e, ok⟩ := acOf ⟨fuel, _, hf⟩
  refine ⟨a, ?_, ok⟩
  have : cs.toList = Enc.enc a := e
  show Value.agg cs = .agg (Enc.enc a).toArray
  rw [← this]
end
end Go.Proofs.Ytokmjepnohjmdaa.Run
