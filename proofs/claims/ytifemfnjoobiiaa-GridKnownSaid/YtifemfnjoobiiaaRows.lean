/-
  No cell of these rows narrows 'for every input' (looked for: loops, veiled, ifaces, maps, wideKeys, modest, calm, conditions, laid).
  DERIVED. THE GIVEN ROWS OF THIS SEAT. 5 by the template 'for every input the law returns true; each argument reads behind the call as it read before'; 0 by the template 'total and deterministic' (their statements: YtifemfnjoobiiaaTotals.lean).
  GIVEN WITH THE SEED: the statements are not yours to turn. If you find one false, say at which input.
  Laid BY PROGRAM, IN A SANDBOX (cutbox-rows.mjs): the forced cells as the released guide's own fill.sh prints them over the translation cbc15a503722099b… (all of the seat's roots in one cut). By AI agents, Wed Nov 11 2026. No macro, syntax, notation, axiom, sorry.
-/
import Derived.Test.YtifemfnjoobiiaaChecked
import GoSem.Claim
import GoSem.ClaimJoined
import GoSem.ClaimMapViews
import Derived.JoinedTies
import Derived.KernelRfl
namespace Go.Proofs.Ytifemfnjoobiiaa
/- THE CELL 'sum', in the pinned program and in every row, IS THE sha256 OF THE DUMP (.gsa) THAT YtifemfnjoobiiaaProg.lean LOADS. Nothing in Lean hashes anything: it is a label: what it is worth is what the hold of that sum in a sandbox is worth. -/
noncomputable def Try.pinned : Pinned := { name := "ytifemfnjoobiiaa", sum := "cbc15a503722099b9b0544076aac94d20ebbfc255f36f91c2da8f098ebf62640", checked := Try.checked }
namespace Rows
def none {H : Type} : Left H := { results := [], args := [] }

/-- 'marqueelaw11.GridAsks': WHATEVER THE INPUT: true; the input reads as it did. -/
def gridAsksSpec : ChangeSpec := { name := "gridAsks", fn := fun _ => fun
  | [d1, d2, d3] => { results := [.lit (.bool true)], args := [d1, d2, d3] }
  | _ => none }
def gridAsksRow : OpenClaim := { program := "ytifemfnjoobiiaa", sum := "cbc15a503722099b9b0544076aac94d20ebbfc255f36f91c2da8f098ebf62640", func := "marquee/marqueelaw11.GridAsks", spec := "gridAsks", inPlace := ["internal/abi.NoEscape", "internal/bytealg.MakeNoZero"], unfollowed := true, recurses := true, apart := false }
def GridAsksSaid : Prop := gridAsksRow.holds Try.pinned (OpenSpec.ofChange gridAsksSpec)

/-- ITS FALSE NEIGHBOUR: 'it returns false'. Refute it at one input. -/
def gridAsksWrong : ChangeSpec := { name := "gridAsks", fn := fun _ => fun
  | [d1, d2, d3] => { results := [.lit (.bool false)], args := [d1, d2, d3] }
  | _ => none }
def GridAsksWrongFalsely : Prop := gridAsksRow.holds Try.pinned (OpenSpec.ofChange gridAsksWrong)

/-- 'marqueelaw11.GridRows': WHATEVER THE INPUT: true; the input reads as it did. -/
def gridRowsSpec : ChangeSpec := { name := "gridRows", fn := fun _ => fun
  | [d1, d2] => { results := [.lit (.bool true)], args := [d1, d2] }
  | _ => none }
def gridRowsRow : OpenClaim := { program := "ytifemfnjoobiiaa", sum := "cbc15a503722099b9b0544076aac94d20ebbfc255f36f91c2da8f098ebf62640", func := "marquee/marqueelaw11.GridRows", spec := "gridRows", inPlace := ["internal/abi.NoEscape", "internal/bytealg.MakeNoZero"], unfollowed := true, recurses := true, apart := false }
def GridRowsSaid : Prop := gridRowsRow.holds Try.pinned (OpenSpec.ofChange gridRowsSpec)

/-- ITS FALSE NEIGHBOUR: 'it returns false'. Refute it at one input. -/
def gridRowsWrong : ChangeSpec := { name := "gridRows", fn := fun _ => fun
  | [d1, d2] => { results := [.lit (.bool false)], args := [d1, d2] }
  | _ => none }
def GridRowsWrongFalsely : Prop := gridRowsRow.holds Try.pinned (OpenSpec.ofChange gridRowsWrong)

/-- 'marqueelaw11.GridKnown': WHATEVER THE INPUT: true; the input reads as it did. -/
def gridKnownSpec : ChangeSpec := { name := "gridKnown", fn := fun _ => fun
  | [] => { results := [.lit (.bool true)], args := [] }
  | _ => none }
def gridKnownRow : OpenClaim := { program := "ytifemfnjoobiiaa", sum := "cbc15a503722099b9b0544076aac94d20ebbfc255f36f91c2da8f098ebf62640", func := "marquee/marqueelaw11.GridKnown", spec := "gridKnown", inPlace := ["internal/abi.NoEscape", "internal/bytealg.MakeNoZero"], unfollowed := true, recurses := true, apart := false }
def GridKnownSaid : Prop := gridKnownRow.holds Try.pinned (OpenSpec.ofChange gridKnownSpec)

/-- ITS FALSE NEIGHBOUR: 'it returns false'. Refute it at one input. -/
def gridKnownWrong : ChangeSpec := { name := "gridKnown", fn := fun _ => fun
  | [] => { results := [.lit (.bool false)], args := [] }
  | _ => none }
def GridKnownWrongFalsely : Prop := gridKnownRow.holds Try.pinned (OpenSpec.ofChange gridKnownWrong)

/-- 'marqueelaw11.GridWhole': WHATEVER THE INPUT: true; the input reads as it did. -/
def gridWholeSpec : ChangeSpec := { name := "gridWhole", fn := fun _ => fun
  | [d1, d2] => { results := [.lit (.bool true)], args := [d1, d2] }
  | _ => none }
def gridWholeRow : OpenClaim := { program := "ytifemfnjoobiiaa", sum := "cbc15a503722099b9b0544076aac94d20ebbfc255f36f91c2da8f098ebf62640", func := "marquee/marqueelaw11.GridWhole", spec := "gridWhole", inPlace := ["internal/abi.NoEscape", "internal/bytealg.MakeNoZero"], unfollowed := true, recurses := true, apart := false }
def GridWholeSaid : Prop := gridWholeRow.holds Try.pinned (OpenSpec.ofChange gridWholeSpec)

/-- ITS FALSE NEIGHBOUR: 'it returns false'. Refute it at one input. -/
def gridWholeWrong : ChangeSpec := { name := "gridWhole", fn := fun _ => fun
  | [d1, d2] => { results := [.lit (.bool false)], args := [d1, d2] }
  | _ => none }
def GridWholeWrongFalsely : Prop := gridWholeRow.holds Try.pinned (OpenSpec.ofChange gridWholeWrong)

/-- 'marqueelaw11.GridCopies': WHATEVER THE INPUT: true; the input reads as it did. -/
def gridCopiesSpec : ChangeSpec := { name := "gridCopies", fn := fun _ => fun
  | [d1, d2] => { results := [.lit (.bool true)], args := [d1, d2] }
  | _ => none }
def gridCopiesRow : OpenClaim := { program := "ytifemfnjoobiiaa", sum := "cbc15a503722099b9b0544076aac94d20ebbfc255f36f91c2da8f098ebf62640", func := "marquee/marqueelaw11.GridCopies", spec := "gridCopies", inPlace := ["internal/abi.NoEscape", "internal/bytealg.MakeNoZero"], unfollowed := true, recurses := true, apart := false }
def GridCopiesSaid : Prop := gridCopiesRow.holds Try.pinned (OpenSpec.ofChange gridCopiesSpec)

/-- ITS FALSE NEIGHBOUR: 'it returns false'. Refute it at one input. -/
def gridCopiesWrong : ChangeSpec := { name := "gridCopies", fn := fun _ => fun
  | [d1, d2] => { results := [.lit (.bool false)], args := [d1, d2] }
  | _ => none }
def GridCopiesWrongFalsely : Prop := gridCopiesRow.holds Try.pinned (OpenSpec.ofChange gridCopiesWrong)

/- THE SECOND FORM. 'bulk': how many values and letters a reading holds, each counted each time it is reached (what is shared counts as often as it is met; a slice's spare places count too). A statement '..UptoSaid' is the law's where the arguments, and the package variables that the reading takes, are together of bulk at most 1048576: NARROWER than '..Said'. Prove '..Said' where nothing that the law and all that it calls make is longer than what came in: it says more and counts as full. Else prove '..UptoSaid'. A law counts once. -/
mutual
def uptoBulk {H : Type} : DataW H → Nat
  | .lit (.string bytes) => bytes.length + 1
  | .lit _ => 1
  | .nil => 1
  | .ptr d => uptoBulk d + 1
  | .slice elems spare => uptoBulkAll elems + uptoBulkAll spare + 1
  | .agg parts => uptoBulkAll parts + 1
  | .iface _ d => uptoBulk d + 1
  | .map entries => uptoBulkEntries entries + 1
  | .held _ => 1
def uptoBulkAll {H : Type} : List (DataW H) → Nat
  | [] => 0
  | d :: r => uptoBulk d + uptoBulkAll r
def uptoBulkEntries {H : Type} : List (Lit × DataW H) → Nat
  | [] => 0
  | x :: r => uptoBulkEntry x + uptoBulkEntries r
def uptoBulkEntry {H : Type} : Lit × DataW H → Nat
  | (.string bytes, d) => bytes.length + uptoBulk d + 1
  | (_, d) => uptoBulk d + 1
 end
def uptoSmall : (H : Type) → List (DataW H) → Bool := fun _ ds => decide (uptoBulkAll ds ≤ 1048576)
def OpenSpec.upto (s : _root_.Go.ChangeSpec) : _root_.Go.OpenSpec := { _root_.Go.OpenSpec.ofChange s with cond := some uptoSmall }

/-- 'marqueelaw11.GridAsks', WHERE WHAT IT READS IS OF BULK AT MOST 1048576: true; the input reads as it did. -/
def gridAsksUptoRow : OpenClaim := { program := "ytifemfnjoobiiaa", sum := "cbc15a503722099b9b0544076aac94d20ebbfc255f36f91c2da8f098ebf62640", func := "marquee/marqueelaw11.GridAsks", spec := "gridAsks", inPlace := ["internal/abi.NoEscape", "internal/bytealg.MakeNoZero"], unfollowed := true, recurses := true, apart := false, narrowed := true }
def GridAsksUptoSaid : Prop := gridAsksUptoRow.holds Try.pinned (OpenSpec.upto gridAsksSpec)

/-- 'marqueelaw11.GridRows', WHERE WHAT IT READS IS OF BULK AT MOST 1048576: true; the input reads as it did. -/
def gridRowsUptoRow : OpenClaim := { program := "ytifemfnjoobiiaa", sum := "cbc15a503722099b9b0544076aac94d20ebbfc255f36f91c2da8f098ebf62640", func := "marquee/marqueelaw11.GridRows", spec := "gridRows", inPlace := ["internal/abi.NoEscape", "internal/bytealg.MakeNoZero"], unfollowed := true, recurses := true, apart := false, narrowed := true }
def GridRowsUptoSaid : Prop := gridRowsUptoRow.holds Try.pinned (OpenSpec.upto gridRowsSpec)

/-- 'marqueelaw11.GridKnown', WHERE WHAT IT READS IS OF BULK AT MOST 1048576: true; the input reads as it did. -/
def gridKnownUptoRow : OpenClaim := { program := "ytifemfnjoobiiaa", sum := "cbc15a503722099b9b0544076aac94d20ebbfc255f36f91c2da8f098ebf62640", func := "marquee/marqueelaw11.GridKnown", spec := "gridKnown", inPlace := ["internal/abi.NoEscape", "internal/bytealg.MakeNoZero"], unfollowed := true, recurses := true, apart := false, narrowed := true }
def GridKnownUptoSaid : Prop := gridKnownUptoRow.holds Try.pinned (OpenSpec.upto gridKnownSpec)

/-- 'marqueelaw11.GridWhole', WHERE WHAT IT READS IS OF BULK AT MOST 1048576: true; the input reads as it did. -/
def gridWholeUptoRow : OpenClaim := { program := "ytifemfnjoobiiaa", sum := "cbc15a503722099b9b0544076aac94d20ebbfc255f36f91c2da8f098ebf62640", func := "marquee/marqueelaw11.GridWhole", spec := "gridWhole", inPlace := ["internal/abi.NoEscape", "internal/bytealg.MakeNoZero"], unfollowed := true, recurses := true, apart := false, narrowed := true }
def GridWholeUptoSaid : Prop := gridWholeUptoRow.holds Try.pinned (OpenSpec.upto gridWholeSpec)

/-- 'marqueelaw11.GridCopies', WHERE WHAT IT READS IS OF BULK AT MOST 1048576: true; the input reads as it did. -/
def gridCopiesUptoRow : OpenClaim := { program := "ytifemfnjoobiiaa", sum := "cbc15a503722099b9b0544076aac94d20ebbfc255f36f91c2da8f098ebf62640", func := "marquee/marqueelaw11.GridCopies", spec := "gridCopies", inPlace := ["internal/abi.NoEscape", "internal/bytealg.MakeNoZero"], unfollowed := true, recurses := true, apart := false, narrowed := true }
def GridCopiesUptoSaid : Prop := gridCopiesUptoRow.holds Try.pinned (OpenSpec.upto gridCopiesSpec)

end Rows
end Go.Proofs.Ytifemfnjoobiiaa
