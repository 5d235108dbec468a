/- The law 'PaneTells' of the given program holds: each function that it calls is shown to answer what it should, over this session's own interpreter (which is shown to answer as the program does). No condition. -/
import Derived.Test.YtacabjkhhejjcaaRows
import Derived.Test.YtacabjkhhejjcaaTellsLaw
import Derived.Test.YtacabjkhhejjcaaGlue
import Derived.WalkKit
import Derived.ProofKit
import Derived.OpenShut
import Derived.ShutString
import Derived.ChangeOld
import Derived.Below
import Derived.SizedLaws
namespace Go.Proofs.Ytacabjkhhejjcaa.paneTells
open Go.ChangeShapes Go.WideShapes Go.ChangeAt Go.RowKit Go.Proofs.Ytacabjkhhejjcaa.Run
set_option linter.unusedVariables false
set_option linter.unusedSimpArgs false
theorem own : ownKnob Try.prog.godebug = none := by kernel_rfl
theorem laidOut : laidOutB Try.prog = true := by kernel_rfl
theorem readDr {H : Type} {enc : TypeId × Value → H} {w : World} {base : Nat} {spare : Nat → Bool} {held : Bool} : ∀ cs, Reads enc Try.prog w base spare held 54 cs → ∃ a : Dr, cs.map (seeV w.heap.size) = (Enc.enc a).map some ∧ a.ok := by
  intro cs h
  have hC : Cells enc Try.prog w base spare held 54 [isInt .u8, isInt .u8, isInt .u8, isInt .u8] :=
    Cells.struct Try.underlying54 (L := [(5, 0), (5, 1), (5, 2), (5, 3)]) rfl (.cons (.int Try.underlying5) (by kernel_rfl) (.cons (.int Try.underlying5) (by kernel_rfl) (.cons (.int Try.underlying5) (by kernel_rfl) (.cons (.int Try.underlying5) (by kernel_rfl) (.nil _))))) (by kernel_rfl)
  obtain ⟨hl, hf⟩ := hC cs h
  match cs, hl with
  | [y0, y1, y2, y3], _ =>
    obtain ⟨n0, rfl, q0⟩ := hf 0 _ _ rfl rfl
    obtain ⟨n1, rfl, q1⟩ := hf 1 _ _ rfl rfl
    obtain ⟨n2, rfl, q2⟩ := hf 2 _ _ rfl rfl
    obtain ⟨n3, rfl, q3⟩ := hf 3 _ _ rfl rfl
    exact ⟨⟨n0, n1, n2, n3⟩, rfl, wf_u8 q0, wf_u8 q1, wf_u8 q2, wf_u8 q3⟩
theorem readSizes {H : Type} {enc : TypeId × Value → H} {w : World} {base b0 : Nat} {spare : Nat → Bool} {held : Bool} {r : Reach} {v : Value} {d : DataW H} {ps : List MemPlace} (hv : Value.okWide Try.prog w r b0 26 v) (h : DataW.Trod enc Try.prog w base spare held 26 v d ps) :
    ∃ y0 y1 y2 : Int, v = .agg #[.int .u16 y0, .int .u16 y1, .int .i8 y2] ∧ (Lit.int .u16 y0).wf = true ∧ (Lit.int .u16 y1).wf = true ∧ (Lit.int .i8 y2).wf = true := by
  have hC : Cells enc Try.prog w base spare held 26 [isInt .u16, isInt .u16, isInt .i8] :=
    Cells.struct Try.underlying26 (L := [(23, 0), (23, 1), (24, 2)]) rfl (.cons (.int Try.underlying23) (by kernel_rfl) (.cons (.int Try.underlying23) (by kernel_rfl) (.cons (.int Try.underlying24) (by kernel_rfl) (.nil _)))) (by kernel_rfl)
  unfold Value.okWide at hv
  rw [Try.underlying26] at hv
  obtain ⟨cs, rfl, _, _⟩ := hv
  obtain ⟨fuel, hf⟩ := h
  obtain ⟨hl, hf⟩ := hC cs.toList ⟨fuel, _, hf⟩
  obtain ⟨l⟩ := cs
  match l, hl with
  | [y0, y1, y2], _ =>
    obtain ⟨n0, rfl, q0⟩ := hf 0 _ _ rfl rfl
    obtain ⟨n1, rfl, q1⟩ := hf 1 _ _ rfl rfl
    obtain ⟨n2, rfl, q2⟩ := hf 2 _ _ rfl rfl
    exact ⟨n0, n1, n2, rfl, q0, q1, q2⟩
theorem relSizes {φ : Run.Loc} (y0 y1 y2 : Int) : VRel φ (.agg #[.int .u16 y0, .int .u16 y1, .int .i8 y2]) (.agg #[.int .u16 y0, .int .u16 y1, .int .i8 y2]) :=
  .agg _ _ rfl (fun i x y hx hy => by
    match i, hx, hy with
    | 0, hx, hy => cases hx; cases hy; exact .int _ _
    | 1, hx, hy => cases hx; cases hy; exact .int _ _
    | 2, hx, hy => cases hx; cases hy; exact .int _ _
    | n + 3, hx, hy => simp at hx) rfl
theorem readRc {H : Type} {enc : TypeId × Value → H} {w : World} {base b0 : Nat} {spare : Nat → Bool} {held : Bool} {r : Reach} {v : Value} {d : DataW H} {ps : List MemPlace} (hv : Value.okWide Try.prog w r b0 34 v) (h : DataW.Trod enc Try.prog w base spare held 34 v d ps) :
    ∃ a : Rc, v = a.val ∧ a.ok := by
  have hC : Cells enc Try.prog w base spare held 34 [isInt .i64, isInt .i64, isInt .i64, isInt .i64] :=
    Cells.struct Try.underlying34 (L := [(3, 0), (3, 1), (3, 2), (3, 3)]) rfl (.cons (.int Try.underlying3) (by kernel_rfl) (.cons (.int Try.underlying3) (by kernel_rfl) (.cons (.int Try.underlying3) (by kernel_rfl) (.cons (.int Try.underlying3) (by kernel_rfl) (.nil _))))) (by kernel_rfl)
  unfold Value.okWide at hv
  rw [Try.underlying34] at hv
  obtain ⟨cs, rfl, _, _⟩ := hv
  obtain ⟨fuel, hf⟩ := h
  obtain ⟨hl, hf⟩ := hC cs.toList ⟨fuel, _, hf⟩
  obtain ⟨l⟩ := cs
  match l, hl with
  | [y0, y1, y2, y3], _ =>
    obtain ⟨n0, rfl, q0⟩ := hf 0 _ _ rfl rfl
    obtain ⟨n1, rfl, q1⟩ := hf 1 _ _ rfl rfl
    obtain ⟨n2, rfl, q2⟩ := hf 2 _ _ rfl rfl
    obtain ⟨n3, rfl, q3⟩ := hf 3 _ _ rfl rfl
    exact ⟨⟨n0, n1, n2, n3⟩, rfl, wf_i64 q0, wf_i64 q1, wf_i64 q2, wf_i64 q3⟩
theorem relRc {φ : Run.Loc} (a : Rc) : VRel φ a.val a.val :=
  .agg _ _ rfl (fun i x y hx hy => by
    match i, hx, hy with
    | 0, hx, hy => cases hx; cases hy; exact .int _ _
    | 1, hx, hy => cases hx; cases hy; exact .int _ _
    | 2, hx, hy => cases hx; cases hy; exact .int _ _
    | 3, hx, hy => cases hx; cases hy; exact .int _ _
    | n + 4, hx, hy => simp at hx) rfl

set_option maxRecDepth 100000 in
theorem lifted (os : Os) (started : os.Started) (H : Type) (enc : TypeId × Value → H) :
    ReturnsInHanded {} Try.checked os 4 .any (Rows.paneTellsSpec.pre6 enc Try.prog Try.f4 Rows.paneTellsRow.domain false) (Rows.paneTellsSpec.post enc Try.prog Try.f4 false true false false) := by
  refine returnsInHanded_of_change_sized (C := Try.checked) own started (by kernel_rfl) Try.func4
    (ChangeSpec.witness6 (enc := enc) (C := Try.checked) false ⟨#[], #[(.slice none 0 0), (.agg #[(.int .i64 0), (.int .i64 0), (.int .i64 0), (.int .i64 0)]), (.agg #[(.int .u16 0), (.int .u16 0), (.int .i8 0)])], []⟩ 8 (by kernel_rfl) (by kernel_rfl) (by kernel_rfl) (by kernel_rfl)) ?_
  intro W base args ds gs before hval0 hW hcnd hsz0 _
  have hval : ∀ (j : Nat) t v, Try.f4.params[j]? = some t → args[j]? = some v → Value.okWide Try.prog W .any base t v := hval0
  have hW' := hW
  obtain ⟨p, q, hA0, hV, rfl, hfz, hnd⟩ := hW
  have hA : DataW.TrodAll enc Try.prog W 0 (fun _ => true) true Try.f4.params.toList args.toList ds p := hA0
  rw [Try.params4] at hA hval
  obtain ⟨v0, vs0, d0, ds0, p0, q0, hargs, rfl, rfl, h0, r0⟩ := trodAll_cons hA
  obtain ⟨v1, vs1, d1, ds1, p1, q1, rfl, rfl, rfl, h1, r1⟩ := trodAll_cons r0
  obtain ⟨v2, vs2, d2, ds2, p2, q2, rfl, rfl, rfl, h2, r2⟩ := trodAll_cons r1
  obtain ⟨rfl, rfl, rfl⟩ := trodAll_nil r2
  obtain rfl : args = #[v0, v1, v2] := by cases args; simp_all
  obtain ⟨rfl, rfl⟩ := trodVars_none hV
  have k0 := h0
  have lt0 : ∀ x ∈ p0, x.block < W.heap.size := by obtain ⟨m, hm⟩ := k0; exact DataW.trod_lt m _ _ _ hm
  obtain ⟨b0, len0, cap0, rfl⟩ := okWide_slice Try.underlying22 (hval 0 22 v0 rfl rfl)
  obtain ⟨x0, e0, L0, s0, o0⟩ := sl_of Try.underlying22 (by kernel_rfl) (readDr (enc := enc)) (slice_has Try.underlying22 (hval 0 22 _ rfl rfl)) (by obtain ⟨fuel, hf⟩ := h0; exact ⟨fuel, _, hf⟩)
  have k1 := h1
  have lt1 : ∀ x ∈ p1, x.block < W.heap.size := by obtain ⟨m, hm⟩ := k1; exact DataW.trod_lt m _ _ _ hm
  obtain ⟨ar, rfl, oka⟩ := readRc (hval 1 34 v1 rfl rfl) h1
  have k2 := h2
  have lt2 : ∀ x ∈ p2, x.block < W.heap.size := by obtain ⟨m, hm⟩ := k2; exact DataW.trod_lt m _ _ _ hm
  obtain ⟨y0, y1, y2, rfl, g0, g1, g2⟩ := readSizes (hval 2 26 v2 rfl rfl) h2
  clear hA0 hval0 hsz0
  have hM : (seeW W).base ≤ (seeW W).size := Nat.le_of_eq (seeW_base W)
  refine (calls_of_W (by kernel_rfl) idf_ok funs_ok known_ok (r := .bool true) rfl (w := W) (tellsLaw_W (y2 := y2) hM s0 o0 oka (wf_u16 g0) (wf_u16 g1) (wf_i8 g2) fun _ => rfl) (args' := #[.slice b0 len0 cap0, ar.val, .agg #[.int .u16 y0, .int .u16 y1, .int .i8 y2]]) (.cons (seeV_rel e0).2 (.cons (relRc _) (.cons (relSizes _ _ _) .nil)))).mono fun e W' ⟨he, bel⟩ => ?_
  subst he
  exact ⟨_, rfl, _, _, _, [], _, [], hW', trodAll_mk1 (shut_bool Try.underlying4 _), (trodAll_cons_mk (Below.trod laidOut (by kernel_rfl) (of_decide_eq_true (by kernel_rfl)) k0 bel lt0) (trodAll_cons_mk (Below.trod laidOut (by kernel_rfl) (of_decide_eq_true (by kernel_rfl)) k1 bel lt1) (trodAll_cons_mk (Below.trod laidOut (by kernel_rfl) (of_decide_eq_true (by kernel_rfl)) k2 bel lt2) trodAll_mk0))), rfl, bel.frame _, fun h => by cases h⟩
theorem over : Rows.paneTellsRow.holds Try.pinned (OpenSpec.ofChange Rows.paneTellsSpec) :=
  OpenClaim.holds_of_wide 4 Try.f4 rfl rfl rfl rfl rfl rfl rfl ⟨rfl, rfl, rfl, rfl, rfl⟩ rfl rfl rfl rfl rfl (by kernel_rfl) Try.func4 (by kernel_rfl)
    (of_decide_eq_true (by kernel_rfl)) (by unfold Func.isWrapper; first | (rw [if_pos (by decide +kernel)]; kernel_rfl) | (rw [if_neg (by decide +kernel)]; exact ⟨rfl, rfl⟩))
    (fun os started H enc _ => lifted os started H enc)
theorem proved : Rows.PaneTellsSaid := over
#print axioms proved
end Go.Proofs.Ytacabjkhhejjcaa.paneTells
namespace Go.Proofs.Ytacabjkhhejjcaa
/-- The row, under a short name, for the claim. -/
theorem paneTells_holds : Rows.PaneTellsSaid := paneTells.proved
end Go.Proofs.Ytacabjkhhejjcaa
