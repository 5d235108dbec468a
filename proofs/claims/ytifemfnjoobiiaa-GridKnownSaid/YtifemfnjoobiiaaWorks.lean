/- A function of the program without parameters that a law calls first: run by the kernel over this session's own interpreter, it answers true; so later runs may take its answer as known. -/
import Derived.Test.YtifemfnjoobiiaaFuns
import Derived.Test.YtifemfnjoobiiaaRunR
namespace Go.Proofs.Ytifemfnjoobiiaa.Run
open Go Go.RowKit
set_option linter.unusedVariables false
def answer : Option (Value × Mem) → Option Value
 | some (v, _) => some v
 | none => none
def isTrue : Option Value → Bool
 | some (.bool true) => true
 | _ => false
set_option maxRecDepth 1000000 in
theorem worksRan : isTrue (answer (callN funs (fun _ _ _ => none) 900 (.func (.func 21) #[] #[]) [] ⟨0, 0, .e⟩)) = true := by kernel_rfl
set_option maxRecDepth 100000 in
theorem of_ran {E : Orac} (hE : OracOK Try.prog idf E) {n f : Nat} (h : isTrue (answer (callN funs E n (.func (.func f) #[] #[]) [] ⟨0, 0, .e⟩)) = true) (w : World) :
  Calls Try.prog f #[] w fun e w' => e = .returned (.bool true) ∧ Below w.heap.size w w' := by
 cases hr : callN funs E n (.func (.func f) #[] #[]) [] ⟨0, 0, .e⟩ with
 | none => rw [hr] at h; cases h
 | some p =>
  obtain ⟨v, M⟩ := p
  rw [hr] at h
  have hv : v = .bool true := by
   unfold answer isTrue at h
   split at h
   ·rename_i he; cases he; rfl
   ·cases h
  subst hv
  exact run_closed (by kernel_rfl) idf_ok funs_ok hE (args := []) rfl rfl hr w
set_option maxRecDepth 100000 in
theorem worksCalls (w : World) : Calls Try.prog 21 #[] w fun e w' => e = .returned (.bool true) ∧ Below w.heap.size w w' :=
 of_ran (fun f args M r hq => by cases hq) worksRan w
def known : Orac := fun f args _ => if f = 21 then (match args with | [] => some (.bool true) | _ => none) else none
set_option maxRecDepth 100000 in
theorem known_ok : OracOK Try.prog idf known := by
 intro f args M r h
 unfold known at h
 split at h
 ·rename_i hf
  subst hf
  cases args with
  | nil => cases h; exact ⟨rfl, ⟨Try.f21, _, Try.func21, rfl, by kernel_rfl⟩, fun φ w args' _ hl => by
   have e : args' = #[] := Array.ext' (by simpa using hl.okC_eq rfl)
   rw [e]; exact worksCalls w⟩
  | cons x l => cases h
 ·cases h
end Go.Proofs.Ytifemfnjoobiiaa.Run
