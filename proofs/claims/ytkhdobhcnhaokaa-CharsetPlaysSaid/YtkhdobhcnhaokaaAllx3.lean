/- Each theorem X.calls says: whenever the Lean function X.f answers r, the Go function of that name returns r, and what lay in memory stays as it was. Written by this session's own program (over the kit's printer, with texts of this session's own for some functions). -/
import Derived.Test.YtkhdobhcnhaokaaAllx0
namespace Go.Proofs.Ytkhdobhcnhaokaa.All
open Go.RowKit Go.Proofs.YtkhdobhcnhaokaaW.PrintWords Go.Proofs.YtkhdobhcnhaokaaW.PrintLast Go.Proofs.YtkhdobhcnhaokaaW.PrintMore
attribute [local go_sem] max2_int min2_int max_two min_two max_three min_three max_four min_four   -- for this text's walks alone
set_option linter.unusedVariables false
set_option linter.unusedSimpArgs false

theorem ixA61 (w : World) (q : IntKind) (x0 x1 x2 x3 x4 x5 x6 x7 x8 x9 x10 x11 x12 x13 x14 x15 x16 x17 x18 x19 x20 x21 x22 x23 x24 x25 x26 x27 x28 x29 x30 x31 i : Int) (h0 : decide (0 ≤ i) = true) (h1 : decide (i < 32) = true) :
    (Instr.index 61 (.agg #[.int .i32 x0, .int .i32 x1, .int .i32 x2, .int .i32 x3, .int .i32 x4, .int .i32 x5, .int .i32 x6, .int .i32 x7, .int .i32 x8, .int .i32 x9, .int .i32 x10, .int .i32 x11, .int .i32 x12, .int .i32 x13, .int .i32 x14, .int .i32 x15, .int .i32 x16, .int .i32 x17, .int .i32 x18, .int .i32 x19, .int .i32 x20, .int .i32 x21, .int .i32 x22, .int .i32 x23, .int .i32 x24, .int .i32 x25, .int .i32 x26, .int .i32 x27, .int .i32 x28, .int .i32 x29, .int .i32 x30, .int .i32 x31]) (.int q i)).run Try.prog w = .ok (.int .i32 (rd [x0, x1, x2, x3, x4, x5, x6, x7, x8, x9, x10, x11, x12, x13, x14, x15, x16, x17, x18, x19, x20, x21, x22, x23, x24, x25, x26, x27, x28, x29, x30, x31] i)) w :=
  Arr.run_index_nums (len := 32) w [x0, x1, x2, x3, x4, x5, x6, x7, x8, x9, x10, x11, x12, x13, x14, x15, x16, x17, x18, x19, x20, x21, x22, x23, x24, x25, x26, x27, x28, x29, x30, x31] i Try.underlying61 (by first | exact Try.underlying21 | kernel_rfl) (fun _ => by kernel_rfl) rfl h0 h1
end Go.Proofs.Ytkhdobhcnhaokaa.All
