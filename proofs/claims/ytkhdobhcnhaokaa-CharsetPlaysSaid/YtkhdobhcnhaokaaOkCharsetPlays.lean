/- The ranges of a law's arguments, and the one pure statement that its row asks for. Written by this session's own program. -/
import Derived.Test.YtkhdobhcnhaokaaAllx9
import Derived.Test.YtkhdobhcnhaokaaOpens
import Derived.KernelRfl
namespace Go.Proofs.Ytkhdobhcnhaokaa.charsetPlays
open Go.RowKit Go.Proofs.Ytkhdobhcnhaokaa.All Go.Proofs.Ytkhdobhcnhaokaa.Opens Go.Proofs.YtkhdobhcnhaokaaW.PrintWords
set_option maxRecDepth 100000
def ok42 (x : S42) : Prop := (Lit.int .u8 x.f0).wf = true ∧ (Lit.int .i8 x.f1).wf = true ∧ (Lit.int .u8 x.f2).wf = true ∧ (Lit.int .i32 x.f3).wf = true
theorem op42 : Opens Try.prog 42 k42 ok42 := fun h => by
  have h1 := opens_iso (opens_struct (tot := 4) Try.underlying42 (by kernel_rfl) (by kernel_rfl) (opensF_cons (o := 0) (o2 := 1) (tot := 4) (opens_int Try.underlying5) (by kernel_rfl) (opensF_cons (o := 1) (o2 := 2) (tot := 4) (opens_int Try.underlying40) (by kernel_rfl) (opensF_cons (o := 2) (o2 := 3) (tot := 4) (opens_int Try.underlying5) (by kernel_rfl) (opensF_last (o := 3) (tot := 4) (opens_int Try.underlying21) (by kernel_rfl)))))) (fun x : S42 => (x.f0, x.f1, x.f2, x.f3)) (fun a => ⟨a.1, a.2.1, a.2.2.1, a.2.2.2⟩) (fun _ => rfl) h
  exact h1
def Said : Prop := ∀ (l0 : List (S42)), l0.length ≤ maxLen → (∀ z ∈ l0, ok42 z) → ∃ k, marqueelaw05_CharsetPlays.f k l0 = some true
end Go.Proofs.Ytkhdobhcnhaokaa.charsetPlays
