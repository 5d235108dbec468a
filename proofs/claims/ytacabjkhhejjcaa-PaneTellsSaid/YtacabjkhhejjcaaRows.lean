/-
  No cell of these rows narrows 'for every input' (looked for: loops, veiled, ifaces, maps, wideKeys, modest, calm, conditions, laid).
  DERIVED. THE GIVEN ROWS OF THIS SEAT. 5 by the template 'for every input the law returns true; each argument reads behind the call as it read before'; 0 by the template 'total and deterministic' (their statements: YtacabjkhhejjcaaTotals.lean).
  GIVEN WITH THE SEED: the statements are not yours to turn. If you find one false, say at which input.
  Laid BY PROGRAM, IN A SANDBOX (cutbox-rows.mjs): the forced cells as the released guide's own fill.sh prints them over the translation 186a539e66d7b460… (all of the seat's roots in one cut). By AI agents, Wed Nov 11 2026. No macro, syntax, notation, axiom, sorry.
-/
import Derived.Test.YtacabjkhhejjcaaChecked
import GoSem.Claim
import GoSem.ClaimJoined
import GoSem.ClaimMapViews
import Derived.JoinedTies
import Derived.KernelRfl
namespace Go.Proofs.Ytacabjkhhejjcaa
/- THE CELL 'sum', in the pinned program and in every row, IS THE sha256 OF THE DUMP (.gsa) THAT YtacabjkhhejjcaaProg.lean LOADS. Nothing in Lean hashes anything: it is a label: what it is worth is what the hold of that sum in a sandbox is worth. -/
noncomputable def Try.pinned : Pinned := { name := "ytacabjkhhejjcaa", sum := "186a539e66d7b460f97052d2bed70b06c0e374187e52436d3f10f4221927cc81", checked := Try.checked }
namespace Rows
def none {H : Type} : Left H := { results := [], args := [] }

/-- 'marqueelaw26.PaneMoves': WHATEVER THE INPUT: true; the input reads as it did. -/
def paneMovesSpec : ChangeSpec := { name := "paneMoves", fn := fun _ => fun
  | [d1, d2] => { results := [.lit (.bool true)], args := [d1, d2] }
  | _ => none }
def paneMovesRow : OpenClaim := { program := "ytacabjkhhejjcaa", sum := "186a539e66d7b460f97052d2bed70b06c0e374187e52436d3f10f4221927cc81", func := "marquee/marqueelaw26.PaneMoves", spec := "paneMoves", unfollowed := true, recurses := true, plainKeys := false, apart := false }
def PaneMovesSaid : Prop := paneMovesRow.holds Try.pinned (OpenSpec.ofChange paneMovesSpec)

/-- ITS FALSE NEIGHBOUR: 'it returns false'. Refute it at one input. -/
def paneMovesWrong : ChangeSpec := { name := "paneMoves", fn := fun _ => fun
  | [d1, d2] => { results := [.lit (.bool false)], args := [d1, d2] }
  | _ => none }
def PaneMovesWrongFalsely : Prop := paneMovesRow.holds Try.pinned (OpenSpec.ofChange paneMovesWrong)

/-- 'marqueelaw26.PaneTells': WHATEVER THE INPUT: true; the input reads as it did. -/
def paneTellsSpec : ChangeSpec := { name := "paneTells", fn := fun _ => fun
  | [d1, d2, d3] => { results := [.lit (.bool true)], args := [d1, d2, d3] }
  | _ => none }
def paneTellsRow : OpenClaim := { program := "ytacabjkhhejjcaa", sum := "186a539e66d7b460f97052d2bed70b06c0e374187e52436d3f10f4221927cc81", func := "marquee/marqueelaw26.PaneTells", spec := "paneTells", unfollowed := true, recurses := true, plainKeys := false, apart := false }
def PaneTellsSaid : Prop := paneTellsRow.holds Try.pinned (OpenSpec.ofChange paneTellsSpec)

/-- ITS FALSE NEIGHBOUR: 'it returns false'. Refute it at one input. -/
def paneTellsWrong : ChangeSpec := { name := "paneTells", fn := fun _ => fun
  | [d1, d2, d3] => { results := [.lit (.bool false)], args := [d1, d2, d3] }
  | _ => none }
def PaneTellsWrongFalsely : Prop := paneTellsRow.holds Try.pinned (OpenSpec.ofChange paneTellsWrong)

/-- 'marqueelaw26.PaneApart': WHATEVER THE INPUT: true; the input reads as it did. -/
def paneApartSpec : ChangeSpec := { name := "paneApart", fn := fun _ => fun
  | [d1, d2] => { results := [.lit (.bool true)], args := [d1, d2] }
  | _ => none }
def paneApartRow : OpenClaim := { program := "ytacabjkhhejjcaa", sum := "186a539e66d7b460f97052d2bed70b06c0e374187e52436d3f10f4221927cc81", func := "marquee/marqueelaw26.PaneApart", spec := "paneApart", unfollowed := true, recurses := true, plainKeys := false, apart := false }
def PaneApartSaid : Prop := paneApartRow.holds Try.pinned (OpenSpec.ofChange paneApartSpec)

/-- ITS FALSE NEIGHBOUR: 'it returns false'. Refute it at one input. -/
def paneApartWrong : ChangeSpec := { name := "paneApart", fn := fun _ => fun
  | [d1, d2] => { results := [.lit (.bool false)], args := [d1, d2] }
  | _ => none }
def PaneApartWrongFalsely : Prop := paneApartRow.holds Try.pinned (OpenSpec.ofChange paneApartWrong)

/-- 'marqueelaw26.PaneStripes': WHATEVER THE INPUT: true; the input reads as it did. -/
def paneStripesSpec : ChangeSpec := { name := "paneStripes", fn := fun _ => fun
  | [d] => { results := [.lit (.bool true)], args := [d] }
  | _ => none }
def paneStripesRow : OpenClaim := { program := "ytacabjkhhejjcaa", sum := "186a539e66d7b460f97052d2bed70b06c0e374187e52436d3f10f4221927cc81", func := "marquee/marqueelaw26.PaneStripes", spec := "paneStripes", unfollowed := true, recurses := true, plainKeys := false, apart := false }
def PaneStripesSaid : Prop := paneStripesRow.holds Try.pinned (OpenSpec.ofChange paneStripesSpec)

/-- ITS FALSE NEIGHBOUR: 'it returns false'. Refute it at one input. -/
def paneStripesWrong : ChangeSpec := { name := "paneStripes", fn := fun _ => fun
  | [d] => { results := [.lit (.bool false)], args := [d] }
  | _ => none }
def PaneStripesWrongFalsely : Prop := paneStripesRow.holds Try.pinned (OpenSpec.ofChange paneStripesWrong)

/-- 'marqueelaw26.PaneKnown': WHATEVER THE INPUT: true; the input reads as it did. -/
def paneKnownSpec : ChangeSpec := { name := "paneKnown", fn := fun _ => fun
  | [] => { results := [.lit (.bool true)], args := [] }
  | _ => none }
def paneKnownRow : OpenClaim := { program := "ytacabjkhhejjcaa", sum := "186a539e66d7b460f97052d2bed70b06c0e374187e52436d3f10f4221927cc81", func := "marquee/marqueelaw26.PaneKnown", spec := "paneKnown", unfollowed := true, recurses := true, plainKeys := false, apart := false }
def PaneKnownSaid : Prop := paneKnownRow.holds Try.pinned (OpenSpec.ofChange paneKnownSpec)

/-- ITS FALSE NEIGHBOUR: 'it returns false'. Refute it at one input. -/
def paneKnownWrong : ChangeSpec := { name := "paneKnown", fn := fun _ => fun
  | [] => { results := [.lit (.bool false)], args := [] }
  | _ => none }
def PaneKnownWrongFalsely : Prop := paneKnownRow.holds Try.pinned (OpenSpec.ofChange paneKnownWrong)

/- THE SECOND FORM. 'bulk': how many values and letters a reading holds, each counted each time it is reached (what is shared counts as often as it is met; a slice's spare places count too). A statement '..UptoSaid' is the law's where the arguments, and the package variables that the reading takes, are together of bulk at most 1048576: NARROWER than '..Said'. Prove '..Said' where nothing that the law and all that it calls make is longer than what came in: it says more and counts as full. Else prove '..UptoSaid'. A law counts once. -/
mutual
def uptoBulk {H : Type} : DataW H → Nat
  | .lit (.string bytes) => bytes.length + 1
  | .lit _ => 1
  | .nil => 1
  | .ptr d => uptoBulk d + 1
  | .slice elems spare => uptoBulkAll elems + uptoBulkAll spare + 1
  | .agg parts => uptoBulkAll parts + 1
  | .iface _ d => uptoBulk d + 1
  | .map entries => uptoBulkEntries entries + 1
  | .held _ => 1
def uptoBulkAll {H : Type} : List (DataW H) → Nat
  | [] => 0
  | d :: r => uptoBulk d + uptoBulkAll r
def uptoBulkEntries {H : Type} : List (Lit × DataW H) → Nat
  | [] => 0
  | x :: r => uptoBulkEntry x + uptoBulkEntries r
def uptoBulkEntry {H : Type} : Lit × DataW H → Nat
  | (.string bytes, d) => bytes.length + uptoBulk d + 1
  | (_, d) => uptoBulk d + 1
 end
def uptoSmall : (H : Type) → List (DataW H) → Bool := fun _ ds => decide (uptoBulkAll ds ≤ 1048576)
def OpenSpec.upto (s : _root_.Go.ChangeSpec) : _root_.Go.OpenSpec := { _root_.Go.OpenSpec.ofChange s with cond := some uptoSmall }

/-- 'marqueelaw26.PaneMoves', WHERE WHAT IT READS IS OF BULK AT MOST 1048576: true; the input reads as it did. -/
def paneMovesUptoRow : OpenClaim := { program := "ytacabjkhhejjcaa", sum := "186a539e66d7b460f97052d2bed70b06c0e374187e52436d3f10f4221927cc81", func := "marquee/marqueelaw26.PaneMoves", spec := "paneMoves", unfollowed := true, recurses := true, plainKeys := false, apart := false, narrowed := true }
def PaneMovesUptoSaid : Prop := paneMovesUptoRow.holds Try.pinned (OpenSpec.upto paneMovesSpec)

/-- 'marqueelaw26.PaneTells', WHERE WHAT IT READS IS OF BULK AT MOST 1048576: true; the input reads as it did. -/
def paneTellsUptoRow : OpenClaim := { program := "ytacabjkhhejjcaa", sum := "186a539e66d7b460f97052d2bed70b06c0e374187e52436d3f10f4221927cc81", func := "marquee/marqueelaw26.PaneTells", spec := "paneTells", unfollowed := true, recurses := true, plainKeys := false, apart := false, narrowed := true }
def PaneTellsUptoSaid : Prop := paneTellsUptoRow.holds Try.pinned (OpenSpec.upto paneTellsSpec)

/-- 'marqueelaw26.PaneApart', WHERE WHAT IT READS IS OF BULK AT MOST 1048576: true; the input reads as it did. -/
def paneApartUptoRow : OpenClaim := { program := "ytacabjkhhejjcaa", sum := "186a539e66d7b460f97052d2bed70b06c0e374187e52436d3f10f4221927cc81", func := "marquee/marqueelaw26.PaneApart", spec := "paneApart", unfollowed := true, recurses := true, plainKeys := false, apart := false, narrowed := true }
def PaneApartUptoSaid : Prop := paneApartUptoRow.holds Try.pinned (OpenSpec.upto paneApartSpec)

/-- 'marqueelaw26.PaneStripes', WHERE WHAT IT READS IS OF BULK AT MOST 1048576: true; the input reads as it did. -/
def paneStripesUptoRow : OpenClaim := { program := "ytacabjkhhejjcaa", sum := "186a539e66d7b460f97052d2bed70b06c0e374187e52436d3f10f4221927cc81", func := "marquee/marqueelaw26.PaneStripes", spec := "paneStripes", unfollowed := true, recurses := true, plainKeys := false, apart := false, narrowed := true }
def PaneStripesUptoSaid : Prop := paneStripesUptoRow.holds Try.pinned (OpenSpec.upto paneStripesSpec)

/-- 'marqueelaw26.PaneKnown', WHERE WHAT IT READS IS OF BULK AT MOST 1048576: true; the input reads as it did. -/
def paneKnownUptoRow : OpenClaim := { program := "ytacabjkhhejjcaa", sum := "186a539e66d7b460f97052d2bed70b06c0e374187e52436d3f10f4221927cc81", func := "marquee/marqueelaw26.PaneKnown", spec := "paneKnown", unfollowed := true, recurses := true, plainKeys := false, apart := false, narrowed := true }
def PaneKnownUptoSaid : Prop := paneKnownUptoRow.holds Try.pinned (OpenSpec.upto paneKnownSpec)

end Rows
end Go.Proofs.Ytacabjkhhejjcaa
