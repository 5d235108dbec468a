/- The law 'RowMoves' of the given program holds: each function that it calls is shown to answer what it should, over this session's own interpreter (which is shown to answer as the program does). No condition. -/
import Derived.Test.YtokmjepnohjmdaaRows
import Derived.Test.YtokmjepnohjmdaaMoves
import Derived.Test.YtokmjepnohjmdaaReads
import Derived.Test.YtokmjepnohjmdaaGlue
import Derived.WalkKit
import Derived.ProofKit
import Derived.OpenShut
import Derived.ShutString
import Derived.ChangeOld
import Derived.Below
import Derived.SizedLaws
namespace Go.Proofs.Ytokmjepnohjmdaa.rowMoves
open Go.ChangeShapes Go.WideShapes Go.ChangeAt Go.RowKit Go.Proofs.Ytokmjepnohjmdaa.Run
set_option linter.unusedVariables false
set_option linter.unusedSimpArgs false
theorem own : ownKnob Try.prog.godebug = none := by kernel_rfl
theorem laidOut : laidOutB Try.prog = true := by kernel_rfl
theorem readThree {w : World} {r : Reach} {b0 : Nat} {v : Value} (hv : Value.okWide Try.prog w r b0 25 v) : ∃ y0 y1 y2 : Int, v = .agg #[.int .u8 y0, .int .u8 y1, .int .u8 y2] ∧ (0 ≤ y0 ∧ y0 ≤ 255) ∧ (0 ≤ y1 ∧ y1 ≤ 255) ∧ (0 ≤ y2 ∧ y2 ≤ 255) := by
  unfold Value.okWide at hv
  rw [Try.underlying25] at hv
  obtain ⟨cs, rfl, hsz, ts, hts, _, hc⟩ := hv
  have h3 : cs.size = 3 := hsz.trans (by kernel_rfl)
  have e : ts = [5, 5, 5] := Option.some.inj (hts.symm.trans (by kernel_rfl))
  subst e
  have one : ∀ (i : Nat) (v : Value), cs[i]? = some v → ∃ n : Int, v = .int .u8 n ∧ 0 ≤ n ∧ n ≤ 255 := fun i v h => by
    obtain ⟨u, hu, hk⟩ := hc i v h
    have hu5 : u = 5 := by
      have := List.mem_of_getElem? hu
      simp only [List.mem_cons, List.not_mem_nil, or_false, or_self] at this
      exact this
    subst hu5
    unfold Cell.okWide at hk
    rw [Try.underlying5] at hk
    unfold Cell.ok at hk
    rw [Try.underlying5] at hk
    cases v <;> simp only at hk
    rename_i k n
    obtain ⟨rfl, hn⟩ := hk
    exact ⟨n, rfl, hn⟩
  obtain ⟨l⟩ := cs
  match l, h3 with
  | [v0, v1, v2], _ =>
    obtain ⟨n0, rfl, q0⟩ := one 0 v0 rfl
    obtain ⟨n1, rfl, q1⟩ := one 1 v1 rfl
    obtain ⟨n2, rfl, q2⟩ := one 2 v2 rfl
    exact ⟨n0, n1, n2, rfl, q0, q1, q2⟩
theorem relThree {φ : Run.Loc} (y0 y1 y2 : Int) : VRel φ (.agg #[.int .u8 y0, .int .u8 y1, .int .u8 y2]) (.agg #[.int .u8 y0, .int .u8 y1, .int .u8 y2]) :=
  .agg _ _ rfl (fun i x y hx hy => by
    match i, hx, hy with
    | 0, hx, hy => cases hx; cases hy; exact .int _ _
    | 1, hx, hy => cases hx; cases hy; exact .int _ _
    | 2, hx, hy => cases hx; cases hy; exact .int _ _
    | n + 3, hx, hy => simp at hx) rfl

set_option maxRecDepth 100000 in
theorem lifted (os : Os) (started : os.Started) (H : Type) (enc : TypeId × Value → H) :
    ReturnsInHanded {} Try.checked os 3 .any (Rows.rowMovesSpec.pre6 enc Try.prog Try.f3 Rows.rowMovesRow.domain false) (Rows.rowMovesSpec.post enc Try.prog Try.f3 false true false false) := by
  refine returnsInHanded_of_change_sized (C := Try.checked) own started (by kernel_rfl) Try.func3
    (ChangeSpec.witness6 (enc := enc) (C := Try.checked) false ⟨#[], #[(.agg #[(.int .u8 0), (.slice none 0 0)]), (.agg #[(.int .u8 0), (.int .u8 0), (.int .u8 0)])], []⟩ 8 (by kernel_rfl) (by kernel_rfl) (by kernel_rfl) (by kernel_rfl)) ?_
  intro W base args ds gs before hval0 hW hcnd hsz0 _
  have hval : ∀ (j : Nat) t v, Try.f3.params[j]? = some t → args[j]? = some v → Value.okWide Try.prog W .any base t v := hval0
  have hW' := hW
  obtain ⟨p, q, hA0, hV, rfl, hfz, hnd⟩ := hW
  have hA : DataW.TrodAll enc Try.prog W 0 (fun _ => true) true Try.f3.params.toList args.toList ds p := hA0
  rw [Try.params3] at hA hval
  obtain ⟨v0, vs0, d0, ds0, p0, q0, hargs, rfl, rfl, h0, r0⟩ := trodAll_cons hA
  obtain ⟨v1, vs1, d1, ds1, p1, q1, rfl, rfl, rfl, h1, r1⟩ := trodAll_cons r0
  obtain ⟨rfl, rfl, rfl⟩ := trodAll_nil r1
  obtain rfl : args = #[v0, v1] := by cases args; simp_all
  obtain ⟨rfl, rfl⟩ := trodVars_none hV
  have k0 := h0
  have lt0 : ∀ x ∈ p0, x.block < W.heap.size := by obtain ⟨m, hm⟩ := k0; exact DataW.trod_lt m _ _ _ hm
  obtain ⟨y0, c0, x0, L0, rfl, w0, e0, s0, o0⟩ := readLine (hval 0 24 v0 rfl rfl) h0
  have k1 := h1
  have lt1 : ∀ x ∈ p1, x.block < W.heap.size := by obtain ⟨m, hm⟩ := k1; exact DataW.trod_lt m _ _ _ hm
  obtain ⟨z0, z1, z2, rfl, g0, g1, g2⟩ := readThree (hval 1 25 v1 rfl rfl)
  clear hA0 hval0 hsz0
  have hM : (seeW W).base ≤ (seeW W).size := Nat.le_of_eq (seeW_base W)
  refine (calls_of_W (by kernel_rfl) idf_ok funs_ok known_ok (r := .bool true) rfl (w := W) (moves10_W hM (wf_u8 w0) s0 o0 g0 g1 g2 fun _ => rfl) (args' := #[.agg #[.int .u8 y0, c0], .agg #[.int .u8 z0, .int .u8 z1, .int .u8 z2]]) (.cons (relLine (seeV_rel e0)) (.cons (relThree _ _ _) .nil))).mono fun e W' ⟨he, bel⟩ => ?_
  subst he
  exact ⟨_, rfl, _, _, _, [], _, [], hW', trodAll_mk1 (shut_bool Try.underlying4 _), (trodAll_cons_mk (Below.trod laidOut (by kernel_rfl) (of_decide_eq_true (by kernel_rfl)) k0 bel lt0) (trodAll_cons_mk (Below.trod laidOut (by kernel_rfl) (of_decide_eq_true (by kernel_rfl)) k1 bel lt1) trodAll_mk0)), rfl, bel.frame _, fun h => by cases h⟩
theorem over : Rows.rowMovesRow.holds Try.pinned (OpenSpec.ofChange Rows.rowMovesSpec) :=
  OpenClaim.holds_of_wide 3 Try.f3 rfl rfl rfl rfl rfl rfl rfl ⟨rfl, rfl, rfl, rfl, rfl⟩ rfl rfl rfl rfl rfl (by kernel_rfl) Try.func3 (by kernel_rfl)
    (of_decide_eq_true (by kernel_rfl)) (by unfold Func.isWrapper; first | (rw [if_pos (by decide +kernel)]; kernel_rfl) | (rw [if_neg (by decide +kernel)]; exact ⟨rfl, rfl⟩))
    (fun os started H enc _ => lifted os started H enc)
theorem proved : Rows.RowMovesSaid := over
#print axioms proved
end Go.Proofs.Ytokmjepnohjmdaa.rowMoves
namespace Go.Proofs.Ytokmjepnohjmdaa
/-- The row, under a short name, for the claim. -/
theorem rowMoves_holds : Rows.RowMovesSaid := rowMoves.proved
end Go.Proofs.Ytokmjepnohjmdaa
