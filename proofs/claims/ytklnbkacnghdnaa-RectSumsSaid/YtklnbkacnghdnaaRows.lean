/-
  No cell of these rows narrows 'for every input' (looked for: loops, veiled, ifaces, maps, wideKeys, modest, calm, conditions, laid).
  DERIVED. THE GIVEN ROWS OF THIS SEAT. 5 by the template 'for every input the law returns true; each argument reads behind the call as it read before'; 0 by the template 'total and deterministic' (their statements: YtklnbkacnghdnaaTotals.lean).
  GIVEN WITH THE SEED: the statements are not yours to turn. If you find one false, say at which input.
  Laid BY PROGRAM, IN A SANDBOX (cutbox-rows.mjs): the forced cells as the released guide's own fill.sh prints them over the translation a01d7dd92a1df157… (all of the seat's roots in one cut). By AI agents, Wed Nov 11 2026. No macro, syntax, notation, axiom, sorry.
-/
import Derived.Test.YtklnbkacnghdnaaChecked
import GoSem.Claim
import GoSem.ClaimJoined
import GoSem.ClaimMapViews
import Derived.JoinedTies
import Derived.KernelRfl
namespace Go.Proofs.Ytklnbkacnghdnaa
/- THE CELL 'sum', in the pinned program and in every row, IS THE sha256 OF THE DUMP (.gsa) THAT YtklnbkacnghdnaaProg.lean LOADS. Nothing in Lean hashes anything: it is a label: what it is worth is what the hold of that sum in a sandbox is worth. -/
noncomputable def Try.pinned : Pinned := { name := "ytklnbkacnghdnaa", sum := "a01d7dd92a1df15798e7a7b12164ef71afeb733535cc9d3e4f32ffb77200ac99", checked := Try.checked }
namespace Rows
def none {H : Type} : Left H := { results := [], args := [] }

/-- 'marqueelaw12.RectMoves': WHATEVER THE INPUT: true; the input reads as it did. -/
def rectMovesSpec : ChangeSpec := { name := "rectMoves", fn := fun _ => fun
  | [d1, d2] => { results := [.lit (.bool true)], args := [d1, d2] }
  | _ => none }
def rectMovesRow : OpenClaim := { program := "ytklnbkacnghdnaa", sum := "a01d7dd92a1df15798e7a7b12164ef71afeb733535cc9d3e4f32ffb77200ac99", func := "marquee/marqueelaw12.RectMoves", spec := "rectMoves", inPlace := ["internal/abi.NoEscape"], unfollowed := true, recurses := true, plainKeys := false, apart := false }
def RectMovesSaid : Prop := rectMovesRow.holds Try.pinned (OpenSpec.ofChange rectMovesSpec)

/-- ITS FALSE NEIGHBOUR: 'it returns false'. Refute it at one input. -/
def rectMovesWrong : ChangeSpec := { name := "rectMoves", fn := fun _ => fun
  | [d1, d2] => { results := [.lit (.bool false)], args := [d1, d2] }
  | _ => none }
def RectMovesWrongFalsely : Prop := rectMovesRow.holds Try.pinned (OpenSpec.ofChange rectMovesWrong)

/-- 'marqueelaw12.RectBlind': WHATEVER THE INPUT: true; the input reads as it did. -/
def rectBlindSpec : ChangeSpec := { name := "rectBlind", fn := fun _ => fun
  | [d1, d2, d3] => { results := [.lit (.bool true)], args := [d1, d2, d3] }
  | _ => none }
def rectBlindRow : OpenClaim := { program := "ytklnbkacnghdnaa", sum := "a01d7dd92a1df15798e7a7b12164ef71afeb733535cc9d3e4f32ffb77200ac99", func := "marquee/marqueelaw12.RectBlind", spec := "rectBlind", inPlace := ["internal/abi.NoEscape"], unfollowed := true, recurses := true, plainKeys := false, apart := false }
def RectBlindSaid : Prop := rectBlindRow.holds Try.pinned (OpenSpec.ofChange rectBlindSpec)

/-- ITS FALSE NEIGHBOUR: 'it returns false'. Refute it at one input. -/
def rectBlindWrong : ChangeSpec := { name := "rectBlind", fn := fun _ => fun
  | [d1, d2, d3] => { results := [.lit (.bool false)], args := [d1, d2, d3] }
  | _ => none }
def RectBlindWrongFalsely : Prop := rectBlindRow.holds Try.pinned (OpenSpec.ofChange rectBlindWrong)

/-- 'marqueelaw12.RectSums': WHATEVER THE INPUT: true; the input reads as it did. -/
def rectSumsSpec : ChangeSpec := { name := "rectSums", fn := fun _ => fun
  | [d1, d2, d3] => { results := [.lit (.bool true)], args := [d1, d2, d3] }
  | _ => none }
def rectSumsRow : OpenClaim := { program := "ytklnbkacnghdnaa", sum := "a01d7dd92a1df15798e7a7b12164ef71afeb733535cc9d3e4f32ffb77200ac99", func := "marquee/marqueelaw12.RectSums", spec := "rectSums", inPlace := ["internal/abi.NoEscape"], unfollowed := true, recurses := true, plainKeys := false, apart := false }
def RectSumsSaid : Prop := rectSumsRow.holds Try.pinned (OpenSpec.ofChange rectSumsSpec)

/-- ITS FALSE NEIGHBOUR: 'it returns false'. Refute it at one input. -/
def rectSumsWrong : ChangeSpec := { name := "rectSums", fn := fun _ => fun
  | [d1, d2, d3] => { results := [.lit (.bool false)], args := [d1, d2, d3] }
  | _ => none }
def RectSumsWrongFalsely : Prop := rectSumsRow.holds Try.pinned (OpenSpec.ofChange rectSumsWrong)

/-- 'marqueelaw12.RectKnown': WHATEVER THE INPUT: true; the input reads as it did. -/
def rectKnownSpec : ChangeSpec := { name := "rectKnown", fn := fun _ => fun
  | [] => { results := [.lit (.bool true)], args := [] }
  | _ => none }
def rectKnownRow : OpenClaim := { program := "ytklnbkacnghdnaa", sum := "a01d7dd92a1df15798e7a7b12164ef71afeb733535cc9d3e4f32ffb77200ac99", func := "marquee/marqueelaw12.RectKnown", spec := "rectKnown", inPlace := ["internal/abi.NoEscape"], unfollowed := true, recurses := true, plainKeys := false, apart := false }
def RectKnownSaid : Prop := rectKnownRow.holds Try.pinned (OpenSpec.ofChange rectKnownSpec)

/-- ITS FALSE NEIGHBOUR: 'it returns false'. Refute it at one input. -/
def rectKnownWrong : ChangeSpec := { name := "rectKnown", fn := fun _ => fun
  | [] => { results := [.lit (.bool false)], args := [] }
  | _ => none }
def RectKnownWrongFalsely : Prop := rectKnownRow.holds Try.pinned (OpenSpec.ofChange rectKnownWrong)

/-- 'marqueelaw12.RectWhole': WHATEVER THE INPUT: true; the input reads as it did. -/
def rectWholeSpec : ChangeSpec := { name := "rectWhole", fn := fun _ => fun
  | [d1, d2] => { results := [.lit (.bool true)], args := [d1, d2] }
  | _ => none }
def rectWholeRow : OpenClaim := { program := "ytklnbkacnghdnaa", sum := "a01d7dd92a1df15798e7a7b12164ef71afeb733535cc9d3e4f32ffb77200ac99", func := "marquee/marqueelaw12.RectWhole", spec := "rectWhole", inPlace := ["internal/abi.NoEscape"], unfollowed := true, recurses := true, plainKeys := false, apart := false }
def RectWholeSaid : Prop := rectWholeRow.holds Try.pinned (OpenSpec.ofChange rectWholeSpec)

/-- ITS FALSE NEIGHBOUR: 'it returns false'. Refute it at one input. -/
def rectWholeWrong : ChangeSpec := { name := "rectWhole", fn := fun _ => fun
  | [d1, d2] => { results := [.lit (.bool false)], args := [d1, d2] }
  | _ => none }
def RectWholeWrongFalsely : Prop := rectWholeRow.holds Try.pinned (OpenSpec.ofChange rectWholeWrong)

/- THE SECOND FORM. 'bulk': how many values and letters a reading holds, each counted each time it is reached (what is shared counts as often as it is met; a slice's spare places count too). A statement '..UptoSaid' is the law's where the arguments, and the package variables that the reading takes, are together of bulk at most 1048576: NARROWER than '..Said'. Prove '..Said' where nothing that the law and all that it calls make is longer than what came in: it says more and counts as full. Else prove '..UptoSaid'. A law counts once. -/
mutual
def uptoBulk {H : Type} : DataW H → Nat
  | .lit (.string bytes) => bytes.length + 1
  | .lit _ => 1
  | .nil => 1
  | .ptr d => uptoBulk d + 1
  | .slice elems spare => uptoBulkAll elems + uptoBulkAll spare + 1
  | .agg parts => uptoBulkAll parts + 1
  | .iface _ d => uptoBulk d + 1
  | .map entries => uptoBulkEntries entries + 1
  | .held _ => 1
def uptoBulkAll {H : Type} : List (DataW H) → Nat
  | [] => 0
  | d :: r => uptoBulk d + uptoBulkAll r
def uptoBulkEntries {H : Type} : List (Lit × DataW H) → Nat
  | [] => 0
  | x :: r => uptoBulkEntry x + uptoBulkEntries r
def uptoBulkEntry {H : Type} : Lit × DataW H → Nat
  | (.string bytes, d) => bytes.length + uptoBulk d + 1
  | (_, d) => uptoBulk d + 1
 end
def uptoSmall : (H : Type) → List (DataW H) → Bool := fun _ ds => decide (uptoBulkAll ds ≤ 1048576)
def OpenSpec.upto (s : _root_.Go.ChangeSpec) : _root_.Go.OpenSpec := { _root_.Go.OpenSpec.ofChange s with cond := some uptoSmall }

/-- 'marqueelaw12.RectMoves', WHERE WHAT IT READS IS OF BULK AT MOST 1048576: true; the input reads as it did. -/
def rectMovesUptoRow : OpenClaim := { program := "ytklnbkacnghdnaa", sum := "a01d7dd92a1df15798e7a7b12164ef71afeb733535cc9d3e4f32ffb77200ac99", func := "marquee/marqueelaw12.RectMoves", spec := "rectMoves", inPlace := ["internal/abi.NoEscape"], unfollowed := true, recurses := true, plainKeys := false, apart := false, narrowed := true }
def RectMovesUptoSaid : Prop := rectMovesUptoRow.holds Try.pinned (OpenSpec.upto rectMovesSpec)

/-- 'marqueelaw12.RectBlind', WHERE WHAT IT READS IS OF BULK AT MOST 1048576: true; the input reads as it did. -/
def rectBlindUptoRow : OpenClaim := { program := "ytklnbkacnghdnaa", sum := "a01d7dd92a1df15798e7a7b12164ef71afeb733535cc9d3e4f32ffb77200ac99", func := "marquee/marqueelaw12.RectBlind", spec := "rectBlind", inPlace := ["internal/abi.NoEscape"], unfollowed := true, recurses := true, plainKeys := false, apart := false, narrowed := true }
def RectBlindUptoSaid : Prop := rectBlindUptoRow.holds Try.pinned (OpenSpec.upto rectBlindSpec)

/-- 'marqueelaw12.RectSums', WHERE WHAT IT READS IS OF BULK AT MOST 1048576: true; the input reads as it did. -/
def rectSumsUptoRow : OpenClaim := { program := "ytklnbkacnghdnaa", sum := "a01d7dd92a1df15798e7a7b12164ef71afeb733535cc9d3e4f32ffb77200ac99", func := "marquee/marqueelaw12.RectSums", spec := "rectSums", inPlace := ["internal/abi.NoEscape"], unfollowed := true, recurses := true, plainKeys := false, apart := false, narrowed := true }
def RectSumsUptoSaid : Prop := rectSumsUptoRow.holds Try.pinned (OpenSpec.upto rectSumsSpec)

/-- 'marqueelaw12.RectKnown', WHERE WHAT IT READS IS OF BULK AT MOST 1048576: true; the input reads as it did. -/
def rectKnownUptoRow : OpenClaim := { program := "ytklnbkacnghdnaa", sum := "a01d7dd92a1df15798e7a7b12164ef71afeb733535cc9d3e4f32ffb77200ac99", func := "marquee/marqueelaw12.RectKnown", spec := "rectKnown", inPlace := ["internal/abi.NoEscape"], unfollowed := true, recurses := true, plainKeys := false, apart := false, narrowed := true }
def RectKnownUptoSaid : Prop := rectKnownUptoRow.holds Try.pinned (OpenSpec.upto rectKnownSpec)

/-- 'marqueelaw12.RectWhole', WHERE WHAT IT READS IS OF BULK AT MOST 1048576: true; the input reads as it did. -/
def rectWholeUptoRow : OpenClaim := { program := "ytklnbkacnghdnaa", sum := "a01d7dd92a1df15798e7a7b12164ef71afeb733535cc9d3e4f32ffb77200ac99", func := "marquee/marqueelaw12.RectWhole", spec := "rectWhole", inPlace := ["internal/abi.NoEscape"], unfollowed := true, recurses := true, plainKeys := false, apart := false, narrowed := true }
def RectWholeUptoSaid : Prop := rectWholeUptoRow.holds Try.pinned (OpenSpec.upto rectWholeSpec)

end Rows
end Go.Proofs.Ytklnbkacnghdnaa
