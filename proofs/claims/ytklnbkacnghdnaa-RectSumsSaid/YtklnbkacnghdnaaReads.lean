/- How a pair of small numbers is read. -/
import Derived.Test.YtklnbkacnghdnaaAct
import Derived.Test.YtklnbkacnghdnaaGlue
import Derived.Test.YtklnbkacnghdnaaProg
import Derived.WalkKit
import Derived.OpenShut
import Derived.ChangeSame
namespace Go.Proofs.Ytklnbkacnghdnaa.Run
open Go Go.RowKit Go.ChangeShapes Go.WideShapes
set_option linter.unusedVariables false
set_option linter.unusedSimpArgs false
theorem cell_has {P : Program} {w : World} {base : Nat} {r : Reach} {t e : TypeId} (ht : P.underlying t = some (.slice e)) {v : Value} (h : Cell.okWide P w r base t v) : ∀ a len cap, v = .slice (some a) len cap → a.spot = none ∧ a.block < w.heap.size := by
  rintro a len cap rfl
  simp only [ht, Cell.okWide, Cell.ok, World.has] at h
  obtain ⟨_, _, _, hs, row, cells, hsh, _⟩ := h
  refine ⟨hs, ?_⟩
  unfold World.shape? at hsh
  cases hg : w.heap[a.block]? with
  | none => rw [hg] at hsh; cases hsh
  | some o => exact (Array.getElem?_eq_some_iff.1 hg).1
section
variable {H : Type} {enc : TypeId × Value → H} {w : World} {base : Nat} {spare : Nat → Bool} {held : Bool}
theorem cellsDr : Cells enc Try.prog w base spare held 30 [isInt .u8, isInt .u8, isInt .u8, isBool, isBool] :=
  Cells.struct Try.underlying30 (L := [(5, 0), (5, 1), (5, 2), (4, 3), (4, 4)]) rfl (.cons (.int Try.underlying5) (by kernel_rfl) (.cons (.int Try.underlying5) (by kernel_rfl) (.cons (.int Try.underlying5) (by kernel_rfl) (.cons (.bool Try.underlying4) (by kernel_rfl) (.cons (.bool Try.underlying4) (by kernel_rfl) (.nil _)))))) (by kernel_rfl)
theorem readDr : ∀ cs, Reads enc Try.prog w base spare held 30 cs → ∃ a : Dr, cs.map (seeV w.heap.size) = (Enc.enc a).map some ∧ a.ok := by
  intro cs h
  obtain ⟨hl, hf⟩ := cellsDr cs h
  match cs, hl with
  | [y0, y1, y2, y3, y4], _ =>
    obtain ⟨n0, rfl, q0⟩ := hf 0 _ _ rfl rfl
    obtain ⟨n1, rfl, q1⟩ := hf 1 _ _ rfl rfl
    obtain ⟨n2, rfl, q2⟩ := hf 2 _ _ rfl rfl
    obtain ⟨n3, rfl⟩ := hf 3 _ _ rfl rfl
    obtain ⟨n4, rfl⟩ := hf 4 _ _ rfl rfl
    exact ⟨⟨n0, n1, n2, n3, n4⟩, rfl, wf_u8 q0, wf_u8 q1, wf_u8 q2⟩
def lnOK (w : World) (a : Ln) : Prop := ∃ D : List Dr, SlH (seeW w) a.v D ∧ ∀ d ∈ D, d.ok
theorem cellsLn : Cells enc Try.prog w base spare held 73 [isInt .u8, fun v => ∃ x, seeV w.heap.size v = some x ∧ ∃ L : List Dr, SlH (seeW w) x L ∧ ∀ a ∈ L, a.ok] :=
  Cells.struct Try.underlying73 (L := [(5, 0), (71, 1)]) rfl (.cons (.int Try.underlying5) (by kernel_rfl) (.cons (Cells.slice (α := Dr) Try.underlying71 (by kernel_rfl) (readDr (enc := enc))) (by kernel_rfl) (.nil _))) (by kernel_rfl)
theorem readLn : ∀ cs, Reads enc Try.prog w base spare held 73 cs → ∃ a : Ln, cs.map (seeV w.heap.size) = (Enc.enc a).map some ∧ lnOK w a := by
  intro cs h
  obtain ⟨hl, hf⟩ := cellsLn cs h
  match cs, hl with
  | [y0, y1], _ =>
    obtain ⟨n0, rfl, q0⟩ := hf 0 _ _ rfl rfl
    obtain ⟨x, hx, D, h1, h2⟩ := hf 1 _ _ rfl rfl
    refine ⟨⟨n0, x⟩, ?_, D, h1, h2⟩
    show [seeV _ _, seeV _ _] = _
    rw [hx]; rfl
theorem lns_of {M : Mem} : ∀ {L : List Ln}, (∀ a ∈ L, ∃ D : List Dr, SlH M a.v D ∧ ∀ d ∈ D, d.ok) → ∃ T : Lns, T.row = L ∧ LnsOK M T
  | [], _ => ⟨[], rfl, fun p hp => by simp at hp⟩
  | a :: L, h => by
    obtain ⟨D, h1, h2⟩ := h a List.mem_cons_self
    obtain ⟨T, h3, h4⟩ := lns_of fun b hb => h b (List.mem_cons_of_mem _ hb)
    refine ⟨(a, D) :: T, by rw [← h3]; rfl, fun p hp => ?_⟩
    rcases List.mem_cons.1 hp with rfl | hp
    · exact ⟨h1, h2⟩
    · exact h4 p hp
theorem draftTypes : Try.prog.cellTypes Try.prog.depth 24 = some [5, 22] := by kernel_rfl
theorem draft2 : Try.prog.cellsOf 24 = 2 := by kernel_rfl
set_option maxRecDepth 100000 in
theorem readDraft {r : Reach} {b0 : Nat} {v : Value} {d : DataW H} {ps : List MemPlace} (hv : Value.okWide Try.prog w r b0 24 v) (h : DataW.Trod enc Try.prog w base spare held 24 v d ps) :
    ∃ (y0 : Int) (s x : Value) (T : Lns), v = .agg #[.int .u8 y0, s] ∧ (Lit.int .u8 y0).wf = true ∧ seeV w.heap.size s = some x ∧ Sl (seeW w) x T.row ∧ LnsOK (seeW w) T := by
  unfold Value.okWide at hv
  rw [Try.underlying24] at hv
  obtain ⟨cs, rfl, hsz, ts, hts, _, hcell⟩ := hv
  rw [draftTypes] at hts
  cases hts
  obtain ⟨fuel, hf⟩ := h
  obtain ⟨xs, n, _, _, hl, hxl, hg⟩ := DataW.trod_struct Try.underlying24 hf
  rw [draft2] at hsz
  obtain ⟨l⟩ := cs
  match l, hsz with
  | [y, s], _ =>
    have h0 := hg 0 _ rfl
    have h1 := hg 1 _ rfl
    have x0 : xs[0]? = some (xs[0]'(by rw [hxl]; decide)) := List.getElem?_eq_getElem _
    have x1 : xs[1]? = some (xs[1]'(by rw [hxl]; decide)) := List.getElem?_eq_getElem _
    obtain ⟨n0, hy, _, hw⟩ := DataW.trod_int Try.underlying5 (h0.trans x0)
    have hy : [y] = [Value.int .u8 n0] := hy
    cases hy
    obtain ⟨u, hu, hc⟩ := hcell 1 s rfl
    cases hu
    obtain ⟨x, e, L, sl, ok⟩ := sl_of (α := Ln) (v := s) Try.underlying22 (by kernel_rfl) (readLn (enc := enc)) (cell_has Try.underlying22 hc) ⟨n, _, h1.trans x1⟩
    obtain ⟨T, rfl, hT⟩ := lns_of ok
    exact ⟨n0, s, x, T, rfl, hw, e, sl, hT⟩
theorem relLine {φ : Run.Loc} {y0 : Int} {s x : Value} (h : x.oneCell' = true ∧ VRel φ x s) : VRel φ (.agg #[.int .u8 y0, x]) (.agg #[.int .u8 y0, s]) :=
  .agg _ _ rfl (fun i a b ha hb => by
    match i, ha, hb with
    | 0, ha, hb => cases ha; cases hb; exact .int _ _
    | 1, ha, hb => cases ha; cases hb; exact h.2
    | n + 2, ha, hb => simp at ha) (by show (true && (x.oneCell' && true)) = true; rw [h.1]; rfl)
theorem relPlain {φ : Run.Loc} {l : List Value} (h : ∀ v ∈ l, VRel φ v v ∧ v.oneCell' = true) : VRel φ (.agg l.toArray) (.agg l.toArray) :=
  .agg _ _ rfl (fun i x y hx hy => by
    rw [hx] at hy; cases hy
    exact (h x (List.mem_of_getElem? (by simpa using hx))).1) (List.all_eq_true.2 fun v hv => (h v hv).2)
theorem relAn {φ : Run.Loc} (a : An) : VRel φ a.val a.val := relPlain fun v hv => by
  simp only [Enc.enc, List.mem_cons, List.not_mem_nil, or_false] at hv
  rcases hv with rfl | rfl | rfl | rfl | rfl | rfl | rfl | rfl | rfl | rfl | rfl | rfl | rfl
  all_goals first | exact ⟨.int _ _, rfl⟩ | exact ⟨.bool _, rfl⟩
theorem cellsRect : Cells enc Try.prog w base spare held 26 [isInt .i64, isInt .i64, isInt .i64, isInt .i64] :=
  Cells.struct Try.underlying26 (L := [(3, 0), (3, 1), (3, 2), (3, 3)]) rfl (.cons (.int Try.underlying3) (by kernel_rfl) (.cons (.int Try.underlying3) (by kernel_rfl) (.cons (.int Try.underlying3) (by kernel_rfl) (.cons (.int Try.underlying3) (by kernel_rfl) (.nil _))))) (by kernel_rfl)
theorem cellsPos : Cells enc Try.prog w base spare held 28 [isInt .i64, isInt .i64] :=
  Cells.struct Try.underlying28 (L := [(3, 0), (3, 1)]) rfl (.cons (.int Try.underlying3) (by kernel_rfl) (.cons (.int Try.underlying3) (by kernel_rfl) (.nil _))) (by kernel_rfl)
theorem cellsAn : Cells enc Try.prog w base spare held 32 [isInt .u8, isInt .i64, isInt .i64, isInt .i64, isInt .i64, isInt .i64, isInt .i64, isInt .u8, isInt .u8, isInt .u8, isBool, isBool, isInt .u8] :=
  Cells.struct Try.underlying32 (L := [(5, 0), (26, 1), (28, 5), (30, 7), (5, 12)]) rfl (.cons (.int Try.underlying5) (by kernel_rfl) (.cons cellsRect (by kernel_rfl) (.cons cellsPos (by kernel_rfl) (.cons cellsDr (by kernel_rfl) (.cons (.int Try.underlying5) (by kernel_rfl) (.nil _)))))) (by kernel_rfl)
theorem anOf {cs : List Value} (h : Reads enc Try.prog w base spare held 32 cs) : ∃ a : An, cs = Enc.enc a ∧ a.ok := by
  obtain ⟨hl, hf⟩ := cellsAn cs h
  match cs, hl with
  | [y0, y1, y2, y3, y4, y5, y6, y7, y8, y9, y10, y11, y12], _ =>
    obtain ⟨n0, rfl, q0⟩ := hf 0 _ _ rfl rfl
    obtain ⟨n1, rfl, q1⟩ := hf 1 _ _ rfl rfl
    obtain ⟨n2, rfl, q2⟩ := hf 2 _ _ rfl rfl
    obtain ⟨n3, rfl, q3⟩ := hf 3 _ _ rfl rfl
    obtain ⟨n4, rfl, q4⟩ := hf 4 _ _ rfl rfl
    obtain ⟨n5, rfl, q5⟩ := hf 5 _ _ rfl rfl
    obtain ⟨n6, rfl, q6⟩ := hf 6 _ _ rfl rfl
    obtain ⟨n7, rfl, q7⟩ := hf 7 _ _ rfl rfl
    obtain ⟨n8, rfl, q8⟩ := hf 8 _ _ rfl rfl
    obtain ⟨n9, rfl, q9⟩ := hf 9 _ _ rfl rfl
    obtain ⟨n10, rfl⟩ := hf 10 _ _ rfl rfl
    obtain ⟨n11, rfl⟩ := hf 11 _ _ rfl rfl
    obtain ⟨n12, rfl, q12⟩ := hf 12 _ _ rfl rfl
    exact ⟨⟨n0, n1, n2, n3, n4, n5, n6, ⟨n7, n8, n9, n10, n11⟩, n12⟩, rfl, wf_u8 q0, wf_i64 q1, wf_i64 q2, wf_i64 q3, wf_i64 q4, wf_i64 q5, wf_i64 q6, ⟨wf_u8 q7, wf_u8 q8, wf_u8 q9⟩, wf_u8 q12⟩
set_option maxRecDepth 100000 in
theorem argAn {r : Reach} {b0 : Nat} {v : Value} {d : DataW H} {ps : List MemPlace} (hv : Value.okWide Try.prog w r b0 32 v) (h : DataW.Trod enc Try.prog w base spare held 32 v d ps) : ∃ a : An, v = a.val ∧ a.ok := by
  unfold Value.okWide at hv
  rw [Try.underlying32] at hv
  obtain ⟨cs, rfl, _⟩ := hv
  obtain ⟨fuel, hf⟩ := h
  obtain ⟨a, ha, ok⟩ := anOf (cs := cs.toList) ⟨fuel, _, hf⟩
  exact ⟨a, by show Value.agg cs = _; rw [show a.val = .agg (Enc.enc a).toArray from rfl, ← ha], ok⟩
end
end Go.Proofs.Ytklnbkacnghdnaa.Run
namespace Go.Proofs.Ytklnbkacnghdnaa.Run
open Go Go.RowKit Go.ChangeShapes Go.WideShapes
set_option linter.unusedVariables false
set_option linter.unusedSimpArgs false
section
variable {H : Type} {enc : TypeId × Value → H} {w : World} {base : Nat} {spare : Nat → Bool} {held : Bool}
abbrev pairV (u v : Int) : Value := .agg #[.int .u8 u, .int .u8 v]
theorem relPair {φ : Run.Loc} (u v : Int) : VRel φ (pairV u v) (pairV u v) := relPlain (l := [.int .u8 u, .int .u8 v]) fun x hx => by
  simp only [List.mem_cons, List.not_mem_nil, or_false] at hx
  rcases hx with rfl | rfl <;> exact ⟨.int _ _, rfl⟩
set_option maxRecDepth 100000 in
theorem argPair {r : Reach} {b0 : Nat} {v : Value} {d : DataW H} {ps : List MemPlace} (hv : Value.okWide Try.prog w r b0 60 v) (h : DataW.Trod enc Try.prog w base spare held 60 v d ps) : ∃ u z : Int, v = pairV u z ∧ (0 ≤ u ∧ u ≤ 255) ∧ 0 ≤ z ∧ z ≤ 255 := by
  unfold Value.okWide at hv
  rw [Try.underlying60] at hv
  obtain ⟨cs, rfl, _⟩ := hv
  obtain ⟨fuel, hf⟩ := h
  have hf : DataW.trod enc Try.prog w base spare held fuel 60 cs.toList = some (d, ps) := hf
  obtain ⟨xs, m, _, _, hl, hxl, hi⟩ := DataW.trod_array Try.underlying60 hf
  have c60 : Try.prog.cellsOf 60 = 2 := by kernel_rfl
  have c5 : Try.prog.cellsOf 5 = 1 := by kernel_rfl
  rw [c60] at hl
  obtain ⟨cs⟩ := cs
  simp only at hl hi
  match cs, hl with
  | [x, y], _ =>
    have h0 := hi 0 (by omega)
    have h1 := hi 1 (by omega)
    rw [c5] at h0 h1
    rw [List.getElem?_eq_getElem (by omega)] at h0 h1
    have k0 : DataW.trod enc Try.prog w base spare held m 5 [x] = some _ := h0
    have k1 : DataW.trod enc Try.prog w base spare held m 5 [y] = some _ := h1
    obtain ⟨n, e0, _, w0⟩ := DataW.trod_int Try.underlying5 k0
    obtain ⟨z, e1, _, w1⟩ := DataW.trod_int Try.underlying5 k1
    cases e0; cases e1
    exact ⟨n, z, rfl, wf_u8 w0, wf_u8 w1⟩
end
end Go.Proofs.Ytklnbkacnghdnaa.Run
