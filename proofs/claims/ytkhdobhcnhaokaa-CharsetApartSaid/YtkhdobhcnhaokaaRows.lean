/-
  No cell of these rows narrows 'for every input' (looked for: loops, veiled, ifaces, maps, wideKeys, modest, calm, conditions, laid).
  DERIVED. THE GIVEN ROWS OF THIS SEAT. 6 by the template 'for every input the law returns true; each argument reads behind the call as it read before'; 0 by the template 'total and deterministic' (their statements: YtkhdobhcnhaokaaTotals.lean).
  GIVEN WITH THE SEED: the statements are not yours to turn. If you find one false, say at which input.
  Laid BY PROGRAM, IN A SANDBOX (cutbox-rows.mjs): the forced cells as the released guide's own fill.sh prints them over the translation fd3997be89e40ebf… (all of the seat's roots in one cut). By AI agents, Wed Nov 11 2026. No macro, syntax, notation, axiom, sorry.
-/
import Derived.Test.YtkhdobhcnhaokaaChecked
import GoSem.Claim
import GoSem.ClaimJoined
import GoSem.ClaimMapViews
import Derived.JoinedTies
import Derived.KernelRfl
namespace Go.Proofs.Ytkhdobhcnhaokaa
/- THE CELL 'sum', in the pinned program and in every row, IS THE sha256 OF THE DUMP (.gsa) THAT YtkhdobhcnhaokaaProg.lean LOADS. Nothing in Lean hashes anything: it is a label: what it is worth is what the hold of that sum in a sandbox is worth. -/
noncomputable def Try.pinned : Pinned := { name := "ytkhdobhcnhaokaa", sum := "fd3997be89e40ebf7fe12016025d01bd05540f816acfa0a8671ed86a65da029c", checked := Try.checked }
namespace Rows
def none {H : Type} : Left H := { results := [], args := [] }

/-- 'marqueelaw05.CharsetOf': WHATEVER THE INPUT: true; the input reads as it did. -/
def charsetOfSpec : ChangeSpec := { name := "charsetOf", fn := fun _ => fun
  | [d1, d2] => { results := [.lit (.bool true)], args := [d1, d2] }
  | _ => none }
def charsetOfRow : OpenClaim := { program := "ytkhdobhcnhaokaa", sum := "fd3997be89e40ebf7fe12016025d01bd05540f816acfa0a8671ed86a65da029c", func := "marquee/marqueelaw05.CharsetOf", spec := "charsetOf", apart := false }
def CharsetOfSaid : Prop := charsetOfRow.holds Try.pinned (OpenSpec.ofChange charsetOfSpec)

/-- ITS FALSE NEIGHBOUR: 'it returns false'. Refute it at one input. -/
def charsetOfWrong : ChangeSpec := { name := "charsetOf", fn := fun _ => fun
  | [d1, d2] => { results := [.lit (.bool false)], args := [d1, d2] }
  | _ => none }
def CharsetOfWrongFalsely : Prop := charsetOfRow.holds Try.pinned (OpenSpec.ofChange charsetOfWrong)

/-- 'marqueelaw05.CharsetApart': WHATEVER THE INPUT: true; the input reads as it did. -/
def charsetApartSpec : ChangeSpec := { name := "charsetApart", fn := fun _ => fun
  | [d1, d2, d3] => { results := [.lit (.bool true)], args := [d1, d2, d3] }
  | _ => none }
def charsetApartRow : OpenClaim := { program := "ytkhdobhcnhaokaa", sum := "fd3997be89e40ebf7fe12016025d01bd05540f816acfa0a8671ed86a65da029c", func := "marquee/marqueelaw05.CharsetApart", spec := "charsetApart", apart := false }
def CharsetApartSaid : Prop := charsetApartRow.holds Try.pinned (OpenSpec.ofChange charsetApartSpec)

/-- ITS FALSE NEIGHBOUR: 'it returns false'. Refute it at one input. -/
def charsetApartWrong : ChangeSpec := { name := "charsetApart", fn := fun _ => fun
  | [d1, d2, d3] => { results := [.lit (.bool false)], args := [d1, d2, d3] }
  | _ => none }
def CharsetApartWrongFalsely : Prop := charsetApartRow.holds Try.pinned (OpenSpec.ofChange charsetApartWrong)

/-- 'marqueelaw05.CharsetPlays': WHATEVER THE INPUT: true; the input reads as it did. -/
def charsetPlaysSpec : ChangeSpec := { name := "charsetPlays", fn := fun _ => fun
  | [d] => { results := [.lit (.bool true)], args := [d] }
  | _ => none }
def charsetPlaysRow : OpenClaim := { program := "ytkhdobhcnhaokaa", sum := "fd3997be89e40ebf7fe12016025d01bd05540f816acfa0a8671ed86a65da029c", func := "marquee/marqueelaw05.CharsetPlays", spec := "charsetPlays", apart := false }
def CharsetPlaysSaid : Prop := charsetPlaysRow.holds Try.pinned (OpenSpec.ofChange charsetPlaysSpec)

/-- ITS FALSE NEIGHBOUR: 'it returns false'. Refute it at one input. -/
def charsetPlaysWrong : ChangeSpec := { name := "charsetPlays", fn := fun _ => fun
  | [d] => { results := [.lit (.bool false)], args := [d] }
  | _ => none }
def CharsetPlaysWrongFalsely : Prop := charsetPlaysRow.holds Try.pinned (OpenSpec.ofChange charsetPlaysWrong)

/-- 'marqueelaw05.CharsetOnce': WHATEVER THE INPUT: true; the input reads as it did. -/
def charsetOnceSpec : ChangeSpec := { name := "charsetOnce", fn := fun _ => fun
  | [d1, d2, d3] => { results := [.lit (.bool true)], args := [d1, d2, d3] }
  | _ => none }
def charsetOnceRow : OpenClaim := { program := "ytkhdobhcnhaokaa", sum := "fd3997be89e40ebf7fe12016025d01bd05540f816acfa0a8671ed86a65da029c", func := "marquee/marqueelaw05.CharsetOnce", spec := "charsetOnce", apart := false }
def CharsetOnceSaid : Prop := charsetOnceRow.holds Try.pinned (OpenSpec.ofChange charsetOnceSpec)

/-- ITS FALSE NEIGHBOUR: 'it returns false'. Refute it at one input. -/
def charsetOnceWrong : ChangeSpec := { name := "charsetOnce", fn := fun _ => fun
  | [d1, d2, d3] => { results := [.lit (.bool false)], args := [d1, d2, d3] }
  | _ => none }
def CharsetOnceWrongFalsely : Prop := charsetOnceRow.holds Try.pinned (OpenSpec.ofChange charsetOnceWrong)

/-- 'marqueelaw05.CharsetPlaces': WHATEVER THE INPUT: true; the input reads as it did. -/
def charsetPlacesSpec : ChangeSpec := { name := "charsetPlaces", fn := fun _ => fun
  | [d1, d2, d3] => { results := [.lit (.bool true)], args := [d1, d2, d3] }
  | _ => none }
def charsetPlacesRow : OpenClaim := { program := "ytkhdobhcnhaokaa", sum := "fd3997be89e40ebf7fe12016025d01bd05540f816acfa0a8671ed86a65da029c", func := "marquee/marqueelaw05.CharsetPlaces", spec := "charsetPlaces", apart := false }
def CharsetPlacesSaid : Prop := charsetPlacesRow.holds Try.pinned (OpenSpec.ofChange charsetPlacesSpec)

/-- ITS FALSE NEIGHBOUR: 'it returns false'. Refute it at one input. -/
def charsetPlacesWrong : ChangeSpec := { name := "charsetPlaces", fn := fun _ => fun
  | [d1, d2, d3] => { results := [.lit (.bool false)], args := [d1, d2, d3] }
  | _ => none }
def CharsetPlacesWrongFalsely : Prop := charsetPlacesRow.holds Try.pinned (OpenSpec.ofChange charsetPlacesWrong)

/-- 'marqueelaw05.CharsetKnown': WHATEVER THE INPUT: true; the input reads as it did. -/
def charsetKnownSpec : ChangeSpec := { name := "charsetKnown", fn := fun _ => fun
  | [] => { results := [.lit (.bool true)], args := [] }
  | _ => none }
def charsetKnownRow : OpenClaim := { program := "ytkhdobhcnhaokaa", sum := "fd3997be89e40ebf7fe12016025d01bd05540f816acfa0a8671ed86a65da029c", func := "marquee/marqueelaw05.CharsetKnown", spec := "charsetKnown", apart := false }
def CharsetKnownSaid : Prop := charsetKnownRow.holds Try.pinned (OpenSpec.ofChange charsetKnownSpec)

/-- ITS FALSE NEIGHBOUR: 'it returns false'. Refute it at one input. -/
def charsetKnownWrong : ChangeSpec := { name := "charsetKnown", fn := fun _ => fun
  | [] => { results := [.lit (.bool false)], args := [] }
  | _ => none }
def CharsetKnownWrongFalsely : Prop := charsetKnownRow.holds Try.pinned (OpenSpec.ofChange charsetKnownWrong)

/- THE SECOND FORM. 'bulk': how many values and letters a reading holds, each counted each time it is reached (what is shared counts as often as it is met; a slice's spare places count too). A statement '..UptoSaid' is the law's where the arguments, and the package variables that the reading takes, are together of bulk at most 1048576: NARROWER than '..Said'. Prove '..Said' where nothing that the law and all that it calls make is longer than what came in: it says more and counts as full. Else prove '..UptoSaid'. A law counts once. -/
mutual
def uptoBulk {H : Type} : DataW H → Nat
  | .lit (.string bytes) => bytes.length + 1
  | .lit _ => 1
  | .nil => 1
  | .ptr d => uptoBulk d + 1
  | .slice elems spare => uptoBulkAll elems + uptoBulkAll spare + 1
  | .agg parts => uptoBulkAll parts + 1
  | .iface _ d => uptoBulk d + 1
  | .map entries => uptoBulkEntries entries + 1
  | .held _ => 1
def uptoBulkAll {H : Type} : List (DataW H) → Nat
  | [] => 0
  | d :: r => uptoBulk d + uptoBulkAll r
def uptoBulkEntries {H : Type} : List (Lit × DataW H) → Nat
  | [] => 0
  | x :: r => uptoBulkEntry x + uptoBulkEntries r
def uptoBulkEntry {H : Type} : Lit × DataW H → Nat
  | (.string bytes, d) => bytes.length + uptoBulk d + 1
  | (_, d) => uptoBulk d + 1
 end
def uptoSmall : (H : Type) → List (DataW H) → Bool := fun _ ds => decide (uptoBulkAll ds ≤ 1048576)
def OpenSpec.upto (s : _root_.Go.ChangeSpec) : _root_.Go.OpenSpec := { _root_.Go.OpenSpec.ofChange s with cond := some uptoSmall }

/-- 'marqueelaw05.CharsetOf', WHERE WHAT IT READS IS OF BULK AT MOST 1048576: true; the input reads as it did. -/
def charsetOfUptoRow : OpenClaim := { program := "ytkhdobhcnhaokaa", sum := "fd3997be89e40ebf7fe12016025d01bd05540f816acfa0a8671ed86a65da029c", func := "marquee/marqueelaw05.CharsetOf", spec := "charsetOf", apart := false, narrowed := true }
def CharsetOfUptoSaid : Prop := charsetOfUptoRow.holds Try.pinned (OpenSpec.upto charsetOfSpec)

/-- 'marqueelaw05.CharsetApart', WHERE WHAT IT READS IS OF BULK AT MOST 1048576: true; the input reads as it did. -/
def charsetApartUptoRow : OpenClaim := { program := "ytkhdobhcnhaokaa", sum := "fd3997be89e40ebf7fe12016025d01bd05540f816acfa0a8671ed86a65da029c", func := "marquee/marqueelaw05.CharsetApart", spec := "charsetApart", apart := false, narrowed := true }
def CharsetApartUptoSaid : Prop := charsetApartUptoRow.holds Try.pinned (OpenSpec.upto charsetApartSpec)

/-- 'marqueelaw05.CharsetPlays', WHERE WHAT IT READS IS OF BULK AT MOST 1048576: true; the input reads as it did. -/
def charsetPlaysUptoRow : OpenClaim := { program := "ytkhdobhcnhaokaa", sum := "fd3997be89e40ebf7fe12016025d01bd05540f816acfa0a8671ed86a65da029c", func := "marquee/marqueelaw05.CharsetPlays", spec := "charsetPlays", apart := false, narrowed := true }
def CharsetPlaysUptoSaid : Prop := charsetPlaysUptoRow.holds Try.pinned (OpenSpec.upto charsetPlaysSpec)

/-- 'marqueelaw05.CharsetOnce', WHERE WHAT IT READS IS OF BULK AT MOST 1048576: true; the input reads as it did. -/
def charsetOnceUptoRow : OpenClaim := { program := "ytkhdobhcnhaokaa", sum := "fd3997be89e40ebf7fe12016025d01bd05540f816acfa0a8671ed86a65da029c", func := "marquee/marqueelaw05.CharsetOnce", spec := "charsetOnce", apart := false, narrowed := true }
def CharsetOnceUptoSaid : Prop := charsetOnceUptoRow.holds Try.pinned (OpenSpec.upto charsetOnceSpec)

/-- 'marqueelaw05.CharsetPlaces', WHERE WHAT IT READS IS OF BULK AT MOST 1048576: true; the input reads as it did. -/
def charsetPlacesUptoRow : OpenClaim := { program := "ytkhdobhcnhaokaa", sum := "fd3997be89e40ebf7fe12016025d01bd05540f816acfa0a8671ed86a65da029c", func := "marquee/marqueelaw05.CharsetPlaces", spec := "charsetPlaces", apart := false, narrowed := true }
def CharsetPlacesUptoSaid : Prop := charsetPlacesUptoRow.holds Try.pinned (OpenSpec.upto charsetPlacesSpec)

/-- 'marqueelaw05.CharsetKnown', WHERE WHAT IT READS IS OF BULK AT MOST 1048576: true; the input reads as it did. -/
def charsetKnownUptoRow : OpenClaim := { program := "ytkhdobhcnhaokaa", sum := "fd3997be89e40ebf7fe12016025d01bd05540f816acfa0a8671ed86a65da029c", func := "marquee/marqueelaw05.CharsetKnown", spec := "charsetKnown", apart := false, narrowed := true }
def CharsetKnownUptoSaid : Prop := charsetKnownUptoRow.holds Try.pinned (OpenSpec.upto charsetKnownSpec)

end Rows
end Go.Proofs.Ytkhdobhcnhaokaa
