/- The law 'PaneStripes' of the given program holds: each function that it calls is shown to answer what it should, over this session's own interpreter (which is shown to answer as the program does). No condition. -/
import Derived.Test.YtacabjkhhejjcaaRows
import Derived.Test.YtacabjkhhejjcaaStripes
import Derived.Test.YtacabjkhhejjcaaGlue
import Derived.WalkKit
import Derived.ProofKit
import Derived.OpenShut
import Derived.ShutString
import Derived.ChangeOld
import Derived.Below
import Derived.SizedLaws
namespace Go.Proofs.Ytacabjkhhejjcaa.paneStripes
open Go.ChangeShapes Go.WideShapes Go.ChangeAt Go.RowKit Go.Proofs.Ytacabjkhhejjcaa.Run
set_option linter.unusedVariables false
set_option linter.unusedSimpArgs false
theorem own : ownKnob Try.prog.godebug = none := by kernel_rfl
theorem laidOut : laidOutB Try.prog = true := by kernel_rfl
theorem readSizes {H : Type} {enc : TypeId × Value → H} {w : World} {base b0 : Nat} {spare : Nat → Bool} {held : Bool} {r : Reach} {v : Value} {d : DataW H} {ps : List MemPlace} (hv : Value.okWide Try.prog w r b0 26 v) (h : DataW.Trod enc Try.prog w base spare held 26 v d ps) :
    ∃ y0 y1 y2 : Int, v = .agg #[.int .u16 y0, .int .u16 y1, .int .i8 y2] ∧ (Lit.int .u16 y0).wf = true ∧ (Lit.int .u16 y1).wf = true ∧ (Lit.int .i8 y2).wf = true := by
  have hC : Cells enc Try.prog w base spare held 26 [isInt .u16, isInt .u16, isInt .i8] :=
    Cells.struct Try.underlying26 (L := [(23, 0), (23, 1), (24, 2)]) rfl (.cons (.int Try.underlying23) (by kernel_rfl) (.cons (.int Try.underlying23) (by kernel_rfl) (.cons (.int Try.underlying24) (by kernel_rfl) (.nil _)))) (by kernel_rfl)
  unfold Value.okWide at hv
  rw [Try.underlying26] at hv
  obtain ⟨cs, rfl, _, _⟩ := hv
  obtain ⟨fuel, hf⟩ := h
  obtain ⟨hl, hf⟩ := hC cs.toList ⟨fuel, _, hf⟩
  obtain ⟨l⟩ := cs
  match l, hl with
  | [y0, y1, y2], _ =>
    obtain ⟨n0, rfl, q0⟩ := hf 0 _ _ rfl rfl
    obtain ⟨n1, rfl, q1⟩ := hf 1 _ _ rfl rfl
    obtain ⟨n2, rfl, q2⟩ := hf 2 _ _ rfl rfl
    exact ⟨n0, n1, n2, rfl, q0, q1, q2⟩
theorem relSizes {φ : Run.Loc} (y0 y1 y2 : Int) : VRel φ (.agg #[.int .u16 y0, .int .u16 y1, .int .i8 y2]) (.agg #[.int .u16 y0, .int .u16 y1, .int .i8 y2]) :=
  .agg _ _ rfl (fun i x y hx hy => by
    match i, hx, hy with
    | 0, hx, hy => cases hx; cases hy; exact .int _ _
    | 1, hx, hy => cases hx; cases hy; exact .int _ _
    | 2, hx, hy => cases hx; cases hy; exact .int _ _
    | n + 3, hx, hy => simp at hx) rfl

set_option maxRecDepth 100000 in
theorem lifted (os : Os) (started : os.Started) (H : Type) (enc : TypeId × Value → H) :
    ReturnsInHanded {} Try.checked os 6 .any (Rows.paneStripesSpec.pre6 enc Try.prog Try.f6 Rows.paneStripesRow.domain false) (Rows.paneStripesSpec.post enc Try.prog Try.f6 false true false false) := by
  refine returnsInHanded_of_change_sized (C := Try.checked) own started (by kernel_rfl) Try.func6
    (ChangeSpec.witness6 (enc := enc) (C := Try.checked) false ⟨#[], #[(.agg #[(.int .u16 0), (.int .u16 0), (.int .i8 0)])], []⟩ 8 (by kernel_rfl) (by kernel_rfl) (by kernel_rfl) (by kernel_rfl)) ?_
  intro W base args ds gs before hval0 hW hcnd hsz0 _
  have hval : ∀ (j : Nat) t v, Try.f6.params[j]? = some t → args[j]? = some v → Value.okWide Try.prog W .any base t v := hval0
  have hW' := hW
  obtain ⟨p, q, hA0, hV, rfl, hfz, hnd⟩ := hW
  have hA : DataW.TrodAll enc Try.prog W 0 (fun _ => true) true Try.f6.params.toList args.toList ds p := hA0
  rw [Try.params6] at hA hval
  obtain ⟨v0, vs0, d0, ds0, p0, q0, hargs, rfl, rfl, h0, r0⟩ := trodAll_cons hA
  obtain ⟨rfl, rfl, rfl⟩ := trodAll_nil r0
  obtain rfl : args = #[v0] := by cases args; simp_all
  obtain ⟨rfl, rfl⟩ := trodVars_none hV
  have k0 := h0
  have lt0 : ∀ x ∈ p0, x.block < W.heap.size := by obtain ⟨m, hm⟩ := k0; exact DataW.trod_lt m _ _ _ hm
  obtain ⟨y0, y1, y2, rfl, g0, g1, g2⟩ := readSizes (hval 0 26 v0 rfl rfl) h0
  clear hA0 hval0 hsz0
  have hM : (seeW W).base ≤ (seeW W).size := Nat.le_of_eq (seeW_base W)
  refine (calls_of_W (by kernel_rfl) idf_ok funs_ok known_ok (r := .bool true) rfl (w := W) (stripesLaw_W hM (wf_u16 g0) (wf_u16 g1) (wf_i8 g2) fun _ => rfl) (args' := #[.agg #[.int .u16 y0, .int .u16 y1, .int .i8 y2]]) (.cons (relSizes _ _ _) .nil)).mono fun e W' ⟨he, bel⟩ => ?_
  subst he
  exact ⟨_, rfl, _, _, _, [], _, [], hW', trodAll_mk1 (shut_bool Try.underlying4 _), (trodAll_cons_mk (Below.trod laidOut (by kernel_rfl) (of_decide_eq_true (by kernel_rfl)) k0 bel lt0) trodAll_mk0), rfl, bel.frame _, fun h => by cases h⟩
theorem over : Rows.paneStripesRow.holds Try.pinned (OpenSpec.ofChange Rows.paneStripesSpec) :=
  OpenClaim.holds_of_wide 6 Try.f6 rfl rfl rfl rfl rfl rfl rfl ⟨rfl, rfl, rfl, rfl, rfl⟩ rfl rfl rfl rfl rfl (by kernel_rfl) Try.func6 (by kernel_rfl)
    (of_decide_eq_true (by kernel_rfl)) (by unfold Func.isWrapper; first | (rw [if_pos (by decide +kernel)]; kernel_rfl) | (rw [if_neg (by decide +kernel)]; exact ⟨rfl, rfl⟩))
    (fun os started H enc _ => lifted os started H enc)
theorem proved : Rows.PaneStripesSaid := over
#print axioms proved
end Go.Proofs.Ytacabjkhhejjcaa.paneStripes
namespace Go.Proofs.Ytacabjkhhejjcaa
/-- The row, under a short name, for the claim. -/
theorem paneStripes_holds : Rows.PaneStripesSaid := paneStripes.proved
end Go.Proofs.Ytacabjkhhejjcaa
