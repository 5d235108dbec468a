/- The law 'CharsetOnce' of the given program holds: each function that it calls is shown to answer what it should, over this session's own interpreter (which is shown to answer as the program does). No condition. -/
import Derived.Test.YtkhdobhcnhaokaaRows
import Derived.Test.YtkhdobhcnhaokaaOnce
import Derived.Test.YtkhdobhcnhaokaaGlue
import Derived.WalkKit
import Derived.ProofKit
import Derived.OpenShut
import Derived.ShutString
import Derived.ChangeOld
import Derived.Below
import Derived.SizedLaws
namespace Go.Proofs.Ytkhdobhcnhaokaa.charsetOnce
open Go.ChangeShapes Go.WideShapes Go.ChangeAt Go.RowKit Go.Proofs.Ytkhdobhcnhaokaa.Run
set_option linter.unusedVariables false
set_option linter.unusedSimpArgs false
theorem own : ownKnob Try.prog.godebug = none := by kernel_rfl
theorem laidOut : laidOutB Try.prog = true := by kernel_rfl
theorem readAct4 {H : Type} {enc : TypeId × Value → H} {w : World} {base : Nat} {spare : Nat → Bool} {held : Bool} : ∀ cs, Reads enc Try.prog w base spare held 42 cs → ∃ a : Act4, cs.map (seeV w.heap.size) = (Enc.enc a).map some ∧ a.ok := by
  intro cs h
  have hC : Cells enc Try.prog w base spare held 42 [isInt .u8, isInt .i8, isInt .u8, isInt .i32] :=
    Cells.struct Try.underlying42 (L := [(5, 0), (40, 1), (5, 2), (21, 3)]) rfl (.cons (.int Try.underlying5) (by kernel_rfl) (.cons (.int Try.underlying40) (by kernel_rfl) (.cons (.int Try.underlying5) (by kernel_rfl) (.cons (.int Try.underlying21) (by kernel_rfl) (.nil _))))) (by kernel_rfl)
  obtain ⟨hl, hf⟩ := hC cs h
  match cs, hl with
  | [y0, y1, y2, y3], _ =>
    obtain ⟨n0, rfl, q0⟩ := hf 0 _ _ rfl rfl
    obtain ⟨n1, rfl, q1⟩ := hf 1 _ _ rfl rfl
    obtain ⟨n2, rfl, q2⟩ := hf 2 _ _ rfl rfl
    obtain ⟨n3, rfl, q3⟩ := hf 3 _ _ rfl rfl
    exact ⟨⟨n0, n1, n2, n3⟩, rfl, wf_u8 q0, wf_i8 q1⟩

set_option maxRecDepth 100000 in
theorem lifted (os : Os) (started : os.Started) (H : Type) (enc : TypeId × Value → H) :
    ReturnsInHanded {} Try.checked os 6 .any (Rows.charsetOnceSpec.pre6 enc Try.prog Try.f6 Rows.charsetOnceRow.domain false) (Rows.charsetOnceSpec.post enc Try.prog Try.f6 false true false false) := by
  refine returnsInHanded_of_change_sized (C := Try.checked) own started (by kernel_rfl) Try.func6
    (ChangeSpec.witness6 (enc := enc) (C := Try.checked) false ⟨#[], #[(.slice none 0 0), (.int .i32 0), (.int .i32 0)], []⟩ 8 (by kernel_rfl) (by kernel_rfl) (by kernel_rfl) (by kernel_rfl)) ?_
  intro W base args ds gs before hval0 hW hcnd hsz0 _
  have hval : ∀ (j : Nat) t v, Try.f6.params[j]? = some t → args[j]? = some v → Value.okWide Try.prog W .any base t v := hval0
  have hW' := hW
  obtain ⟨p, q, hA0, hV, rfl, hfz, hnd⟩ := hW
  have hA : DataW.TrodAll enc Try.prog W 0 (fun _ => true) true Try.f6.params.toList args.toList ds p := hA0
  rw [Try.params6] at hA hval
  obtain ⟨v0, vs0, d0, ds0, p0, q0, hargs, rfl, rfl, h0, r0⟩ := trodAll_cons hA
  obtain ⟨v1, vs1, d1, ds1, p1, q1, rfl, rfl, rfl, h1, r1⟩ := trodAll_cons r0
  obtain ⟨v2, vs2, d2, ds2, p2, q2, rfl, rfl, rfl, h2, r2⟩ := trodAll_cons r1
  obtain ⟨rfl, rfl, rfl⟩ := trodAll_nil r2
  obtain rfl : args = #[v0, v1, v2] := by cases args; simp_all
  obtain ⟨rfl, rfl⟩ := trodVars_none hV
  have k0 := h0
  have lt0 : ∀ x ∈ p0, x.block < W.heap.size := by obtain ⟨m, hm⟩ := k0; exact DataW.trod_lt m _ _ _ hm
  obtain ⟨b0, len0, cap0, rfl⟩ := okWide_slice Try.underlying26 (hval 0 26 v0 rfl rfl)
  obtain ⟨x0, e0, L0, s0, o0⟩ := sl_of Try.underlying26 (by kernel_rfl) (readAct4 (enc := enc)) (slice_has Try.underlying26 (hval 0 26 _ rfl rfl)) (by obtain ⟨fuel, hf⟩ := h0; exact ⟨fuel, _, hf⟩)
  obtain ⟨a1, rfl, rfl, rfl, w1⟩ := open_int Try.underlying21 (hval 1 21 v1 rfl rfl) h1
  obtain ⟨a2, rfl, rfl, rfl, w2⟩ := open_int Try.underlying21 (hval 2 21 v2 rfl rfl) h2
  clear hA0 hval0 hsz0
  have hM : (seeW W).base ≤ (seeW W).size := Nat.le_of_eq (seeW_base W)
  refine (calls_of_W (by kernel_rfl) idf_ok funs_ok chE_ok (r := .bool true) rfl (w := W) (charsetOnce_W hM s0 o0 a1 a2 fun _ => rfl) (args' := #[.slice b0 len0 cap0, .int .i32 a1, .int .i32 a2]) (.cons (seeV_rel e0).2 (.cons (.int _ _) (.cons (.int _ _) .nil)))).mono fun e W' ⟨he, bel⟩ => ?_
  subst he
  exact ⟨_, rfl, _, _, _, [], _, [], hW', trodAll_mk1 (shut_bool Try.underlying4 _), (trodAll_cons_mk (Below.trod laidOut (by kernel_rfl) (of_decide_eq_true (by kernel_rfl)) k0 bel lt0) (trodAll_cons_mk (shut_int Try.underlying21 w1) (trodAll_cons_mk (shut_int Try.underlying21 w2) trodAll_mk0))), rfl, bel.frame _, fun h => by cases h⟩
theorem over : Rows.charsetOnceRow.holds Try.pinned (OpenSpec.ofChange Rows.charsetOnceSpec) :=
  OpenClaim.holds_of_wide 6 Try.f6 rfl rfl rfl rfl rfl rfl rfl ⟨rfl, rfl, rfl, rfl, rfl⟩ rfl rfl rfl rfl rfl (by kernel_rfl) Try.func6 (by kernel_rfl)
    (of_decide_eq_true (by kernel_rfl)) (by unfold Func.isWrapper; first | (rw [if_pos (by decide +kernel)]; kernel_rfl) | (rw [if_neg (by decide +kernel)]; exact ⟨rfl, rfl⟩))
    (fun os started H enc _ => lifted os started H enc)
theorem proved : Rows.CharsetOnceSaid := over
#print axioms proved
end Go.Proofs.Ytkhdobhcnhaokaa.charsetOnce
namespace Go.Proofs.Ytkhdobhcnhaokaa
/-- The row, under a short name, for the claim. -/
theorem charsetOnce_holds : Rows.CharsetOnceSaid := charsetOnce.proved
end Go.Proofs.Ytkhdobhcnhaokaa
