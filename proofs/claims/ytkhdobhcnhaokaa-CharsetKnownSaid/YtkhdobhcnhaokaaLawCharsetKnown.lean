/- The law 'CharsetKnown' of the given program holds: its run, worked out by the kernel over this session's own interpreter (which is shown to answer as the program does), answers true. No condition. -/
import Derived.Test.YtkhdobhcnhaokaaRows
import Derived.Test.YtkhdobhcnhaokaaFuns
import Derived.Test.YtkhdobhcnhaokaaRunR
import Derived.WalkKit
import Derived.ProofKit
import Derived.OpenShut
import Derived.ChangeOld
import Derived.Below
namespace Go.Proofs.Ytkhdobhcnhaokaa.charsetKnown
open Go.ChangeShapes Go.WideShapes Go.ChangeAt Go.RowKit Go.Proofs.Ytkhdobhcnhaokaa.Run
set_option linter.unusedVariables false
theorem own : ownKnob Try.prog.godebug = none := by kernel_rfl
theorem laidOut : laidOutB Try.prog = true := by kernel_rfl
def answer : Option (Value × Mem) → Option Value
  | some (v, _) => some v
  | none => none
def isTrue : Option Value → Bool
  | some (.bool true) => true
  | _ => false
set_option maxRecDepth 1000000 in
theorem ran : isTrue (answer (callN funs (fun _ _ => none) 600 (.func (.func 8) #[] #[]) [] ⟨0, 0, .e⟩)) = true := by kernel_rfl
theorem calls (w : World) : Calls Try.prog 8 #[] w fun e w' => e = .returned (.bool true) ∧ Below w.heap.size w w' := by
  have h := ran
  cases hr : callN funs (fun _ _ => none) 600 (.func (.func 8) #[] #[]) [] ⟨0, 0, .e⟩ with
  | none => rw [hr] at h; cases h
  | some p =>
    obtain ⟨v, M⟩ := p
    rw [hr] at h
    have hv : v = .bool true := by
      unfold answer isTrue at h
      split at h
      · rename_i he; cases he; rfl
      · cases h
    subst hv
    exact run_closed (by kernel_rfl) idf_ok funs_ok (fun f args r hq => by cases hq) (args := []) rfl rfl hr w
set_option maxRecDepth 100000 in
theorem lifted (os : Os) (started : os.Started) (H : Type) (enc : TypeId × Value → H) :
    ReturnsInHanded {} Try.checked os 8 .any (Rows.charsetKnownSpec.pre6 enc Try.prog Try.f8 Rows.charsetKnownRow.domain false) (Rows.charsetKnownSpec.post enc Try.prog Try.f8 false true false false) := by
  refine returnsInHanded_of_change (C := Try.checked) own started (by kernel_rfl) Try.func8
    (ChangeSpec.witness6 (enc := enc) (C := Try.checked) false ⟨#[], #[], []⟩ 8 (by kernel_rfl) (by kernel_rfl) (by kernel_rfl) (by kernel_rfl)) ?_
  intro W base args ds gs before hval0 hW hcnd _
  have hW' := hW
  obtain ⟨p, q, hA0, hV, rfl, hfz, hnd⟩ := hW
  have hA : DataW.TrodAll enc Try.prog W 0 (fun _ => true) true Try.f8.params.toList args.toList ds p := hA0
  rw [Try.params8] at hA
  obtain ⟨hargs, rfl, rfl⟩ := trodAll_nil hA
  obtain rfl : args = #[] := by cases args; simp_all
  obtain ⟨rfl, rfl⟩ := trodVars_none hV
  refine (calls W).mono fun e W' ⟨he, bel⟩ => ?_
  subst he
  exact ⟨_, rfl, _, _, _, [], _, [], hW', trodAll_mk1 (shut_bool Try.underlying4 _), trodAll_mk0, rfl, bel.frame _, fun h => by cases h⟩
theorem over : Rows.charsetKnownRow.holds Try.pinned (OpenSpec.ofChange Rows.charsetKnownSpec) :=
  OpenClaim.holds_of_wide 8 Try.f8 rfl rfl rfl rfl rfl rfl rfl ⟨rfl, rfl, rfl, rfl, rfl⟩ rfl rfl rfl rfl rfl (by kernel_rfl) Try.func8 (by kernel_rfl)
    (of_decide_eq_true (by kernel_rfl)) (by unfold Func.isWrapper; first | (rw [if_pos (by decide +kernel)]; kernel_rfl) | (rw [if_neg (by decide +kernel)]; exact ⟨rfl, rfl⟩))
    (fun os started H enc _ => lifted os started H enc)
theorem proved : Rows.CharsetKnownSaid := over
#print axioms proved
end Go.Proofs.Ytkhdobhcnhaokaa.charsetKnown
namespace Go.Proofs.Ytkhdobhcnhaokaa
/-- The row, under a short name, for the claim. -/
theorem charsetKnown_holds : Rows.CharsetKnownSaid := charsetKnown.proved
end Go.Proofs.Ytkhdobhcnhaokaa
