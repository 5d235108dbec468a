/- How the arguments of chapter 11's laws are read: drafts of grids, steps. -/
import Derived.Test.YtifemfnjoobiiaaRefG
import Derived.Test.YtifemfnjoobiiaaGlue
import Derived.Test.YtifemfnjoobiiaaProg
import Derived.WalkKit
import Derived.OpenShut
import Derived.ChangeSame
namespace Go.Proofs.Ytifemfnjoobiiaa.Run
open Go Go.RowKit Go.ChangeShapes Go.WideShapes
set_option linter.unusedVariables false
set_option linter.unusedSimpArgs false
theorem cell_has {P : Program} {w : World} {base : Nat} {r : Reach} {t e : TypeId} (ht : P.underlying t = some (.slice e)) {v : Value} (h : Cell.okWide P w r base t v) : ∀ a len cap, v = .slice (some a) len cap → a.spot = none ∧ a.block < w.heap.size := by
 rintro a len cap rfl
 simp only [ht, Cell.okWide, Cell.ok, World.has] at h
 obtain ⟨_, _, _, hs, row, cells, hsh, _⟩ := h
 refine ⟨hs, ?_⟩
 unfold World.shape? at hsh
 cases hg : w.heap[a.block]? with
 | none => rw [hg] at hsh; cases hsh
 | some o => exact (Array.getElem?_eq_some_iff.1 hg).1
section
variable {H : Type} {enc : TypeId × Value → H} {w : World} {base : Nat} {spare : Nat → Bool} {held : Bool}
theorem cellsDr : Cells enc Try.prog w base spare held 60 [isInt .u8, isInt .u8, isInt .u8, isBool, isBool] :=
 Cells.struct Try.underlying60 (L := [(5, 0), (5, 1), (5, 2), (4, 3), (4, 4)]) rfl (.cons (.int Try.underlying5) (by kernel_rfl) (.cons (.int Try.underlying5) (by kernel_rfl) (.cons (.int Try.underlying5) (by kernel_rfl) (.cons (.bool Try.underlying4) (by kernel_rfl) (.cons (.bool Try.underlying4) (by kernel_rfl) (.nil _)))))) (by kernel_rfl)
theorem readDr : ∀ cs, Reads enc Try.prog w base spare held 60 cs → ∃ a : Dr, cs.map (seeV w.heap.size) = (Enc.enc a).map some ∧ a.ok := by
 intro cs h
 obtain ⟨hl, hf⟩ := cellsDr cs h
 match cs, hl with
 | [y0, y1, y2, y3, y4], _ =>
  obtain ⟨n0, rfl, q0⟩ := hf 0 _ _ rfl rfl
  obtain ⟨n1, rfl, q1⟩ := hf 1 _ _ rfl rfl
  obtain ⟨n2, rfl, q2⟩ := hf 2 _ _ rfl rfl
  obtain ⟨n3, rfl⟩ := hf 3 _ _ rfl rfl
  obtain ⟨n4, rfl⟩ := hf 4 _ _ rfl rfl
  exact ⟨⟨n0, n1, n2, n3, n4⟩, rfl, wf_u8 q0, wf_u8 q1, wf_u8 q2⟩
def lnOK (w : World) (a : Ln) : Prop := ∃ D : List Dr, SlH (seeW w) a.v D ∧ ∀ d ∈ D, d.ok
theorem cellsLn : Cells enc Try.prog w base spare held 91 [isInt .u8, fun v => ∃ x, seeV w.heap.size v = some x ∧ ∃ L : List Dr, SlH (seeW w) x L ∧ ∀ a ∈ L, a.ok] :=
 Cells.struct Try.underlying91 (L := [(5, 0), (89, 1)]) rfl (.cons (.int Try.underlying5) (by kernel_rfl) (.cons (Cells.slice (α := Dr) Try.underlying89 (by kernel_rfl) (readDr (enc := enc))) (by kernel_rfl) (.nil _))) (by kernel_rfl)
theorem readLn : ∀ cs, Reads enc Try.prog w base spare held 91 cs → ∃ a : Ln, cs.map (seeV w.heap.size) = (Enc.enc a).map some ∧ lnOK w a := by
 intro cs h
 obtain ⟨hl, hf⟩ := cellsLn cs h
 match cs, hl with
 | [y0, y1], _ =>
  obtain ⟨n0, rfl, q0⟩ := hf 0 _ _ rfl rfl
  obtain ⟨x, hx, D, h1, h2⟩ := hf 1 _ _ rfl rfl
  refine ⟨⟨n0, x⟩, ?_, D, h1, h2⟩
  show [seeV _ _, seeV _ _] = _
  rw [hx]; rfl
theorem lns_of {M : Mem} : ∀ {L : List Ln}, (∀ a ∈ L, ∃ D : List Dr, SlH M a.v D ∧ ∀ d ∈ D, d.ok) → ∃ T : Lns, T.row = L ∧ LnsOK M T
 | [], _ => ⟨[], rfl, fun p hp => by simp at hp⟩
 | a :: L, h => by
  obtain ⟨D, h1, h2⟩ := h a List.mem_cons_self
  obtain ⟨T, h3, h4⟩ := lns_of fun b hb => h b (List.mem_cons_of_mem _ hb)
  refine ⟨(a, D) :: T, by rw [← h3]; rfl, fun p hp => ?_⟩
  rcases List.mem_cons.1 hp with rfl | hp
  ·exact ⟨h1, h2⟩
  ·exact h4 p hp
theorem draftTypes : Try.prog.cellTypes Try.prog.depth 24 = some [5, 22] := by kernel_rfl
theorem draft2 : Try.prog.cellsOf 24 = 2 := by kernel_rfl
set_option maxRecDepth 100000 in
theorem readDraft {r : Reach} {b0 : Nat} {v : Value} {d : DataW H} {ps : List MemPlace} (hv : Value.okWide Try.prog w r b0 24 v) (h : DataW.Trod enc Try.prog w base spare held 24 v d ps) :
  ∃ (y0 : Int) (s x : Value) (T : Lns), v = .agg #[.int .u8 y0, s] ∧ (Lit.int .u8 y0).wf = true ∧ seeV w.heap.size s = some x ∧ Sl (seeW w) x T.row ∧ LnsOK (seeW w) T := by
 unfold Value.okWide at hv
 rw [Try.underlying24] at hv
 obtain ⟨cs, rfl, hsz, ts, hts, _, hcell⟩ := hv
 rw [draftTypes] at hts
 cases hts
 obtain ⟨fuel, hf⟩ := h
 obtain ⟨xs, n, _, _, hl, hxl, hg⟩ := DataW.trod_struct Try.underlying24 hf
 rw [draft2] at hsz
 obtain ⟨l⟩ := cs
 match l, hsz with
 | [y, s], _ =>
  have h0 := hg 0 _ rfl
  have h1 := hg 1 _ rfl
  have x0 : xs[0]? = some (xs[0]'(by rw [hxl]; decide)) := List.getElem?_eq_getElem _
  have x1 : xs[1]? = some (xs[1]'(by rw [hxl]; decide)) := List.getElem?_eq_getElem _
  obtain ⟨n0, hy, _, hw⟩ := DataW.trod_int Try.underlying5 (h0.trans x0)
  have hy : [y] = [Value.int .u8 n0] := hy
  cases hy
  obtain ⟨u, hu, hc⟩ := hcell 1 s rfl
  cases hu
  obtain ⟨x, e, L, sl, ok⟩ := sl_of (α := Ln) (v := s) Try.underlying22 (by kernel_rfl) (readLn (enc := enc)) (cell_has Try.underlying22 hc) ⟨n, _, h1.trans x1⟩
  obtain ⟨T, rfl, hT⟩ := lns_of ok
  exact ⟨n0, s, x, T, rfl, hw, e, sl, hT⟩
theorem relLine {φ : Run.Loc} {y0 : Int} {s x : Value} (h : x.oneCell' = true ∧ VRel φ x s) : VRel φ (.agg #[.int .u8 y0, x]) (.agg #[.int .u8 y0, s]) :=
 .agg _ _ rfl (fun i a b ha hb => by
  match i, ha, hb with
  | 0, ha, hb => cases ha; cases hb; exact .int _ _
  | 1, ha, hb => cases ha; cases hb; exact h.2
  | n + 2, ha, hb => simp at ha) (by show (true && (x.oneCell' && true)) = true; rw [h.1]; rfl)
theorem relPlain {φ : Run.Loc} {l : List Value} (h : ∀ v ∈ l, VRel φ v v ∧ v.oneCell' = true) : VRel φ (.agg l.toArray) (.agg l.toArray) :=
 .agg _ _ rfl (fun i x y hx hy => by
  rw [hx] at hy; cases hy
  exact (h x (List.mem_of_getElem? (by simpa using hx))).1) (List.all_eq_true.2 fun v hv => (h v hv).2)
end
end Go.Proofs.Ytifemfnjoobiiaa.Run
