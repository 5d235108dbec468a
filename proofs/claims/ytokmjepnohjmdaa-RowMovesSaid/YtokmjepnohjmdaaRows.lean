/-
  No cell of these rows narrows 'for every input' (looked for: loops, veiled, ifaces, maps, wideKeys, modest, calm, conditions, laid).
  DERIVED. THE GIVEN ROWS OF THIS SEAT. 4 by the template 'for every input the law returns true; each argument reads behind the call as it read before'; 0 by the template 'total and deterministic' (their statements: YtokmjepnohjmdaaTotals.lean).
  GIVEN WITH THE SEED: the statements are not yours to turn. If you find one false, say at which input.
  Laid BY PROGRAM, IN A SANDBOX (cutbox-rows.mjs): the forced cells as the released guide's own fill.sh prints them over the translation 06debe3e60844654… (all of the seat's roots in one cut). By AI agents, Wed Nov 11 2026. No macro, syntax, notation, axiom, sorry.
-/
import Derived.Test.YtokmjepnohjmdaaChecked
import GoSem.Claim
import GoSem.ClaimJoined
import GoSem.ClaimMapViews
import Derived.JoinedTies
import Derived.KernelRfl
namespace Go.Proofs.Ytokmjepnohjmdaa
/- THE CELL 'sum', in the pinned program and in every row, IS THE sha256 OF THE DUMP (.gsa) THAT YtokmjepnohjmdaaProg.lean LOADS. Nothing in Lean hashes anything: it is a label: what it is worth is what the hold of that sum in a sandbox is worth. -/
noncomputable def Try.pinned : Pinned := { name := "ytokmjepnohjmdaa", sum := "06debe3e60844654bf684eb1fb17b7451a82a771ea920db79c32e0242d7f26f5", checked := Try.checked }
namespace Rows
def none {H : Type} : Left H := { results := [], args := [] }

/-- 'marqueelaw10.RowMoves': WHATEVER THE INPUT: true; the input reads as it did. -/
def rowMovesSpec : ChangeSpec := { name := "rowMoves", fn := fun _ => fun
  | [d1, d2] => { results := [.lit (.bool true)], args := [d1, d2] }
  | _ => none }
def rowMovesRow : OpenClaim := { program := "ytokmjepnohjmdaa", sum := "06debe3e60844654bf684eb1fb17b7451a82a771ea920db79c32e0242d7f26f5", func := "marquee/marqueelaw10.RowMoves", spec := "rowMoves", inPlace := ["internal/abi.NoEscape"], unfollowed := true, recurses := true, apart := false }
def RowMovesSaid : Prop := rowMovesRow.holds Try.pinned (OpenSpec.ofChange rowMovesSpec)

/-- ITS FALSE NEIGHBOUR: 'it returns false'. Refute it at one input. -/
def rowMovesWrong : ChangeSpec := { name := "rowMoves", fn := fun _ => fun
  | [d1, d2] => { results := [.lit (.bool false)], args := [d1, d2] }
  | _ => none }
def RowMovesWrongFalsely : Prop := rowMovesRow.holds Try.pinned (OpenSpec.ofChange rowMovesWrong)

/-- 'marqueelaw10.RowBlind': WHATEVER THE INPUT: true; the input reads as it did. -/
def rowBlindSpec : ChangeSpec := { name := "rowBlind", fn := fun _ => fun
  | [d1, d2, d3] => { results := [.lit (.bool true)], args := [d1, d2, d3] }
  | _ => none }
def rowBlindRow : OpenClaim := { program := "ytokmjepnohjmdaa", sum := "06debe3e60844654bf684eb1fb17b7451a82a771ea920db79c32e0242d7f26f5", func := "marquee/marqueelaw10.RowBlind", spec := "rowBlind", inPlace := ["internal/abi.NoEscape"], unfollowed := true, recurses := true, apart := false }
def RowBlindSaid : Prop := rowBlindRow.holds Try.pinned (OpenSpec.ofChange rowBlindSpec)

/-- ITS FALSE NEIGHBOUR: 'it returns false'. Refute it at one input. -/
def rowBlindWrong : ChangeSpec := { name := "rowBlind", fn := fun _ => fun
  | [d1, d2, d3] => { results := [.lit (.bool false)], args := [d1, d2, d3] }
  | _ => none }
def RowBlindWrongFalsely : Prop := rowBlindRow.holds Try.pinned (OpenSpec.ofChange rowBlindWrong)

/-- 'marqueelaw10.RowRaises': WHATEVER THE INPUT: true; the input reads as it did. -/
def rowRaisesSpec : ChangeSpec := { name := "rowRaises", fn := fun _ => fun
  | [d1, d2] => { results := [.lit (.bool true)], args := [d1, d2] }
  | _ => none }
def rowRaisesRow : OpenClaim := { program := "ytokmjepnohjmdaa", sum := "06debe3e60844654bf684eb1fb17b7451a82a771ea920db79c32e0242d7f26f5", func := "marquee/marqueelaw10.RowRaises", spec := "rowRaises", inPlace := ["internal/abi.NoEscape"], unfollowed := true, recurses := true, apart := false }
def RowRaisesSaid : Prop := rowRaisesRow.holds Try.pinned (OpenSpec.ofChange rowRaisesSpec)

/-- ITS FALSE NEIGHBOUR: 'it returns false'. Refute it at one input. -/
def rowRaisesWrong : ChangeSpec := { name := "rowRaises", fn := fun _ => fun
  | [d1, d2] => { results := [.lit (.bool false)], args := [d1, d2] }
  | _ => none }
def RowRaisesWrongFalsely : Prop := rowRaisesRow.holds Try.pinned (OpenSpec.ofChange rowRaisesWrong)

/-- 'marqueelaw10.RowWhole': WHATEVER THE INPUT: true; the input reads as it did. -/
def rowWholeSpec : ChangeSpec := { name := "rowWhole", fn := fun _ => fun
  | [d1, d2] => { results := [.lit (.bool true)], args := [d1, d2] }
  | _ => none }
def rowWholeRow : OpenClaim := { program := "ytokmjepnohjmdaa", sum := "06debe3e60844654bf684eb1fb17b7451a82a771ea920db79c32e0242d7f26f5", func := "marquee/marqueelaw10.RowWhole", spec := "rowWhole", inPlace := ["internal/abi.NoEscape"], unfollowed := true, recurses := true, apart := false }
def RowWholeSaid : Prop := rowWholeRow.holds Try.pinned (OpenSpec.ofChange rowWholeSpec)

/-- ITS FALSE NEIGHBOUR: 'it returns false'. Refute it at one input. -/
def rowWholeWrong : ChangeSpec := { name := "rowWhole", fn := fun _ => fun
  | [d1, d2] => { results := [.lit (.bool false)], args := [d1, d2] }
  | _ => none }
def RowWholeWrongFalsely : Prop := rowWholeRow.holds Try.pinned (OpenSpec.ofChange rowWholeWrong)

/- THE SECOND FORM. 'bulk': how many values and letters a reading holds, each counted each time it is reached (what is shared counts as often as it is met; a slice's spare places count too). A statement '..UptoSaid' is the law's where the arguments, and the package variables that the reading takes, are together of bulk at most 1048576: NARROWER than '..Said'. Prove '..Said' where nothing that the law and all that it calls make is longer than what came in: it says more and counts as full. Else prove '..UptoSaid'. A law counts once. -/
mutual
def uptoBulk {H : Type} : DataW H → Nat
  | .lit (.string bytes) => bytes.length + 1
  | .lit _ => 1
  | .nil => 1
  | .ptr d => uptoBulk d + 1
  | .slice elems spare => uptoBulkAll elems + uptoBulkAll spare + 1
  | .agg parts => uptoBulkAll parts + 1
  | .iface _ d => uptoBulk d + 1
  | .map entries => uptoBulkEntries entries + 1
  | .held _ => 1
def uptoBulkAll {H : Type} : List (DataW H) → Nat
  | [] => 0
  | d :: r => uptoBulk d + uptoBulkAll r
def uptoBulkEntries {H : Type} : List (Lit × DataW H) → Nat
  | [] => 0
  | x :: r => uptoBulkEntry x + uptoBulkEntries r
def uptoBulkEntry {H : Type} : Lit × DataW H → Nat
  | (.string bytes, d) => bytes.length + uptoBulk d + 1
  | (_, d) => uptoBulk d + 1
 end
def uptoSmall : (H : Type) → List (DataW H) → Bool := fun _ ds => decide (uptoBulkAll ds ≤ 1048576)
def OpenSpec.upto (s : _root_.Go.ChangeSpec) : _root_.Go.OpenSpec := { _root_.Go.OpenSpec.ofChange s with cond := some uptoSmall }

/-- 'marqueelaw10.RowMoves', WHERE WHAT IT READS IS OF BULK AT MOST 1048576: true; the input reads as it did. -/
def rowMovesUptoRow : OpenClaim := { program := "ytokmjepnohjmdaa", sum := "06debe3e60844654bf684eb1fb17b7451a82a771ea920db79c32e0242d7f26f5", func := "marquee/marqueelaw10.RowMoves", spec := "rowMoves", inPlace := ["internal/abi.NoEscape"], unfollowed := true, recurses := true, apart := false, narrowed := true }
def RowMovesUptoSaid : Prop := rowMovesUptoRow.holds Try.pinned (OpenSpec.upto rowMovesSpec)

/-- 'marqueelaw10.RowBlind', WHERE WHAT IT READS IS OF BULK AT MOST 1048576: true; the input reads as it did. -/
def rowBlindUptoRow : OpenClaim := { program := "ytokmjepnohjmdaa", sum := "06debe3e60844654bf684eb1fb17b7451a82a771ea920db79c32e0242d7f26f5", func := "marquee/marqueelaw10.RowBlind", spec := "rowBlind", inPlace := ["internal/abi.NoEscape"], unfollowed := true, recurses := true, apart := false, narrowed := true }
def RowBlindUptoSaid : Prop := rowBlindUptoRow.holds Try.pinned (OpenSpec.upto rowBlindSpec)

/-- 'marqueelaw10.RowRaises', WHERE WHAT IT READS IS OF BULK AT MOST 1048576: true; the input reads as it did. -/
def rowRaisesUptoRow : OpenClaim := { program := "ytokmjepnohjmdaa", sum := "06debe3e60844654bf684eb1fb17b7451a82a771ea920db79c32e0242d7f26f5", func := "marquee/marqueelaw10.RowRaises", spec := "rowRaises", inPlace := ["internal/abi.NoEscape"], unfollowed := true, recurses := true, apart := false, narrowed := true }
def RowRaisesUptoSaid : Prop := rowRaisesUptoRow.holds Try.pinned (OpenSpec.upto rowRaisesSpec)

/-- 'marqueelaw10.RowWhole', WHERE WHAT IT READS IS OF BULK AT MOST 1048576: true; the input reads as it did. -/
def rowWholeUptoRow : OpenClaim := { program := "ytokmjepnohjmdaa", sum := "06debe3e60844654bf684eb1fb17b7451a82a771ea920db79c32e0242d7f26f5", func := "marquee/marqueelaw10.RowWhole", spec := "rowWhole", inPlace := ["internal/abi.NoEscape"], unfollowed := true, recurses := true, apart := false, narrowed := true }
def RowWholeUptoSaid : Prop := rowWholeUptoRow.holds Try.pinned (OpenSpec.upto rowWholeSpec)

end Rows
end Go.Proofs.Ytokmjepnohjmdaa
