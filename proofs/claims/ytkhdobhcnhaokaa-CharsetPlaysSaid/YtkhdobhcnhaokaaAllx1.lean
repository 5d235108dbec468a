/- Each theorem X.calls says: whenever the Lean function X.f answers r, the Go function of that name returns r, and what lay in memory stays as it was. Written by this session's own program (over the kit's printer, with texts of this session's own for some functions). -/
import Derived.Test.YtkhdobhcnhaokaaAllx0
namespace Go.Proofs.Ytkhdobhcnhaokaa.All
open Go.RowKit Go.Proofs.YtkhdobhcnhaokaaW.PrintWords Go.Proofs.YtkhdobhcnhaokaaW.PrintLast Go.Proofs.YtkhdobhcnhaokaaW.PrintMore
attribute [local go_sem] max2_int min2_int max_two min_two max_three min_three max_four min_four   -- for this text's walks alone
set_option linter.unusedVariables false
set_option linter.unusedSimpArgs false

theorem eqA29 (d : Nat) (w : World) (x0 y0 : Int) (x1 y1 : Int) (x2 y2 : Int) (x3 y3 : Int) :
    (Op.equalIn (d + 2) 29 (.agg #[.int .u8 x0, .int .u8 x1, .int .u8 x2, .int .u8 x3]) (.agg #[.int .u8 y0, .int .u8 y1, .int .u8 y2, .int .u8 y3])).run Try.prog w = .ok (x0 == y0 && (x1 == y1 && (x2 == y2 && (x3 == y3)))) w := by
  refine Arr.eqr_of (n := 1) Try.underlying29 (fun _ => by kernel_rfl) ?_
  show (Arr.eqElems _ _ _ _ _ [0, 1, 2, 3]).run _ _ = _
  refine Arr.eqr_cons (a := (.int .u8 x0)) (b := (.int .u8 y0)) (by kernel_rfl) (by kernel_rfl) (by go_simp) ?_
  refine Arr.eqr_cons (a := (.int .u8 x1)) (b := (.int .u8 y1)) (by kernel_rfl) (by kernel_rfl) (by go_simp) ?_
  refine Arr.eqr_cons (a := (.int .u8 x2)) (b := (.int .u8 y2)) (by kernel_rfl) (by kernel_rfl) (by go_simp) ?_
  exact Arr.eqr_last (a := (.int .u8 x3)) (b := (.int .u8 y3)) (by kernel_rfl) (by kernel_rfl) (by go_simp)
theorem eqA32 (d : Nat) (w : World) (x0 y0 : Int) (x1 y1 : Int) (x2 y2 : Int) (x3 y3 : Int) (x4 y4 : Int) (x5 y5 : Int) :
    (Op.equalIn (d + 3) 32 (.agg #[.int .u8 x0, .int .u8 x1, .int .u8 x2, .int .u8 x3, .int .u8 x4, .int .u8 x5]) (.agg #[.int .u8 y0, .int .u8 y1, .int .u8 y2, .int .u8 y3, .int .u8 y4, .int .u8 y5])).run Try.prog w = .ok ((x0 == y0 && (x1 == y1 && (x2 == y2 && (x3 == y3)))) && (x4 == y4 && (x5 == y5))) w := by
  refine eqA_of Try.underlying32 (by kernel_rfl) ?_
  refine eqf_cons (by rfl) (a := (.agg #[.int .u8 x0, .int .u8 x1, .int .u8 x2, .int .u8 x3])) (b := (.agg #[.int .u8 y0, .int .u8 y1, .int .u8 y2, .int .u8 y3])) (by kernel_rfl) (by kernel_rfl) (eqA29 (d + 0) w _ _ _ _ _ _ _ _) ?_
  refine eqf_cons (by rfl) (a := (.int .u8 x4)) (b := (.int .u8 y4)) (by kernel_rfl) (by kernel_rfl) (by go_simp) ?_
  exact eqf_last (by rfl) (a := (.int .u8 x5)) (b := (.int .u8 y5)) (by kernel_rfl) (by kernel_rfl) (by go_simp)
end Go.Proofs.Ytkhdobhcnhaokaa.All
