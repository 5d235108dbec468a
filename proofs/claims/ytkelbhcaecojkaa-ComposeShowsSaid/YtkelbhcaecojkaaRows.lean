/-
  No cell of these rows narrows 'for every input' (looked for: loops, veiled, ifaces, maps, wideKeys, modest, calm, conditions, laid).
  DERIVED. THE GIVEN ROWS OF THIS SEAT. 5 by the template 'for every input the law returns true; each argument reads behind the call as it read before'; 0 by the template 'total and deterministic' (their statements: YtkelbhcaecojkaaTotals.lean).
  GIVEN WITH THE SEED: the statements are not yours to turn. If you find one false, say at which input.
  Laid BY PROGRAM, IN A SANDBOX (cutbox-rows.mjs): the forced cells as the released guide's own fill.sh prints them over the translation cb545eb47dbc85b4… (all of the seat's roots in one cut). By AI agents, Wed Nov 11 2026. No macro, syntax, notation, axiom, sorry.
-/
import Derived.Test.YtkelbhcaecojkaaChecked
import GoSem.Claim
import GoSem.ClaimJoined
import GoSem.ClaimMapViews
import Derived.JoinedTies
import Derived.KernelRfl
namespace Go.Proofs.Ytkelbhcaecojkaa
/- THE CELL 'sum', in the pinned program and in every row, IS THE sha256 OF THE DUMP (.gsa) THAT YtkelbhcaecojkaaProg.lean LOADS. Nothing in Lean hashes anything: it is a label: what it is worth is what the hold of that sum in a sandbox is worth. -/
noncomputable def Try.pinned : Pinned := { name := "ytkelbhcaecojkaa", sum := "cb545eb47dbc85b488b09d27baabe1c12b5183645b50b5dd9172e0c4cf217ee7", checked := Try.checked }
namespace Rows
def none {H : Type} : Left H := { results := [], args := [] }

/-- 'marqueelaw30.ComposeChanges': WHATEVER THE INPUT: true; the input reads as it did. -/
def composeChangesSpec : ChangeSpec := { name := "composeChanges", fn := fun _ => fun
  | [d1, d2] => { results := [.lit (.bool true)], args := [d1, d2] }
  | _ => none }
def composeChangesRow : OpenClaim := { program := "ytkelbhcaecojkaa", sum := "cb545eb47dbc85b488b09d27baabe1c12b5183645b50b5dd9172e0c4cf217ee7", func := "marquee/marqueelaw30.ComposeChanges", spec := "composeChanges", inPlace := ["internal/abi.NoEscape"], unfollowed := true, recurses := true, plainKeys := false, apart := false }
def ComposeChangesSaid : Prop := composeChangesRow.holds Try.pinned (OpenSpec.ofChange composeChangesSpec)

/-- ITS FALSE NEIGHBOUR: 'it returns false'. Refute it at one input. -/
def composeChangesWrong : ChangeSpec := { name := "composeChanges", fn := fun _ => fun
  | [d1, d2] => { results := [.lit (.bool false)], args := [d1, d2] }
  | _ => none }
def ComposeChangesWrongFalsely : Prop := composeChangesRow.holds Try.pinned (OpenSpec.ofChange composeChangesWrong)

/-- 'marqueelaw30.ComposeShows': WHATEVER THE INPUT: true; the input reads as it did. -/
def composeShowsSpec : ChangeSpec := { name := "composeShows", fn := fun _ => fun
  | [d1, d2] => { results := [.lit (.bool true)], args := [d1, d2] }
  | _ => none }
def composeShowsRow : OpenClaim := { program := "ytkelbhcaecojkaa", sum := "cb545eb47dbc85b488b09d27baabe1c12b5183645b50b5dd9172e0c4cf217ee7", func := "marquee/marqueelaw30.ComposeShows", spec := "composeShows", inPlace := ["internal/abi.NoEscape"], unfollowed := true, recurses := true, plainKeys := false, apart := false }
def ComposeShowsSaid : Prop := composeShowsRow.holds Try.pinned (OpenSpec.ofChange composeShowsSpec)

/-- ITS FALSE NEIGHBOUR: 'it returns false'. Refute it at one input. -/
def composeShowsWrong : ChangeSpec := { name := "composeShows", fn := fun _ => fun
  | [d1, d2] => { results := [.lit (.bool false)], args := [d1, d2] }
  | _ => none }
def ComposeShowsWrongFalsely : Prop := composeShowsRow.holds Try.pinned (OpenSpec.ofChange composeShowsWrong)

/-- 'marqueelaw30.ComposeBlind': WHATEVER THE INPUT: true; the input reads as it did. -/
def composeBlindSpec : ChangeSpec := { name := "composeBlind", fn := fun _ => fun
  | [d1, d2, d3] => { results := [.lit (.bool true)], args := [d1, d2, d3] }
  | _ => none }
def composeBlindRow : OpenClaim := { program := "ytkelbhcaecojkaa", sum := "cb545eb47dbc85b488b09d27baabe1c12b5183645b50b5dd9172e0c4cf217ee7", func := "marquee/marqueelaw30.ComposeBlind", spec := "composeBlind", inPlace := ["internal/abi.NoEscape"], unfollowed := true, recurses := true, plainKeys := false, apart := false }
def ComposeBlindSaid : Prop := composeBlindRow.holds Try.pinned (OpenSpec.ofChange composeBlindSpec)

/-- ITS FALSE NEIGHBOUR: 'it returns false'. Refute it at one input. -/
def composeBlindWrong : ChangeSpec := { name := "composeBlind", fn := fun _ => fun
  | [d1, d2, d3] => { results := [.lit (.bool false)], args := [d1, d2, d3] }
  | _ => none }
def ComposeBlindWrongFalsely : Prop := composeBlindRow.holds Try.pinned (OpenSpec.ofChange composeBlindWrong)

/-- 'marqueelaw30.ComposeBanner': WHATEVER THE INPUT: true; the input reads as it did. -/
def composeBannerSpec : ChangeSpec := { name := "composeBanner", fn := fun _ => fun
  | [d1, d2] => { results := [.lit (.bool true)], args := [d1, d2] }
  | _ => none }
def composeBannerRow : OpenClaim := { program := "ytkelbhcaecojkaa", sum := "cb545eb47dbc85b488b09d27baabe1c12b5183645b50b5dd9172e0c4cf217ee7", func := "marquee/marqueelaw30.ComposeBanner", spec := "composeBanner", inPlace := ["internal/abi.NoEscape"], unfollowed := true, recurses := true, plainKeys := false, apart := false }
def ComposeBannerSaid : Prop := composeBannerRow.holds Try.pinned (OpenSpec.ofChange composeBannerSpec)

/-- ITS FALSE NEIGHBOUR: 'it returns false'. Refute it at one input. -/
def composeBannerWrong : ChangeSpec := { name := "composeBanner", fn := fun _ => fun
  | [d1, d2] => { results := [.lit (.bool false)], args := [d1, d2] }
  | _ => none }
def ComposeBannerWrongFalsely : Prop := composeBannerRow.holds Try.pinned (OpenSpec.ofChange composeBannerWrong)

/-- 'marqueelaw30.ComposeKnown': WHATEVER THE INPUT: true; the input reads as it did. -/
def composeKnownSpec : ChangeSpec := { name := "composeKnown", fn := fun _ => fun
  | [] => { results := [.lit (.bool true)], args := [] }
  | _ => none }
def composeKnownRow : OpenClaim := { program := "ytkelbhcaecojkaa", sum := "cb545eb47dbc85b488b09d27baabe1c12b5183645b50b5dd9172e0c4cf217ee7", func := "marquee/marqueelaw30.ComposeKnown", spec := "composeKnown", inPlace := ["internal/abi.NoEscape"], unfollowed := true, recurses := true, plainKeys := false, apart := false }
def ComposeKnownSaid : Prop := composeKnownRow.holds Try.pinned (OpenSpec.ofChange composeKnownSpec)

/-- ITS FALSE NEIGHBOUR: 'it returns false'. Refute it at one input. -/
def composeKnownWrong : ChangeSpec := { name := "composeKnown", fn := fun _ => fun
  | [] => { results := [.lit (.bool false)], args := [] }
  | _ => none }
def ComposeKnownWrongFalsely : Prop := composeKnownRow.holds Try.pinned (OpenSpec.ofChange composeKnownWrong)

/- THE SECOND FORM. 'bulk': how many values and letters a reading holds, each counted each time it is reached (what is shared counts as often as it is met; a slice's spare places count too). A statement '..UptoSaid' is the law's where the arguments, and the package variables that the reading takes, are together of bulk at most 1048576: NARROWER than '..Said'. Prove '..Said' where nothing that the law and all that it calls make is longer than what came in: it says more and counts as full. Else prove '..UptoSaid'. A law counts once. -/
mutual
def uptoBulk {H : Type} : DataW H → Nat
  | .lit (.string bytes) => bytes.length + 1
  | .lit _ => 1
  | .nil => 1
  | .ptr d => uptoBulk d + 1
  | .slice elems spare => uptoBulkAll elems + uptoBulkAll spare + 1
  | .agg parts => uptoBulkAll parts + 1
  | .iface _ d => uptoBulk d + 1
  | .map entries => uptoBulkEntries entries + 1
  | .held _ => 1
def uptoBulkAll {H : Type} : List (DataW H) → Nat
  | [] => 0
  | d :: r => uptoBulk d + uptoBulkAll r
def uptoBulkEntries {H : Type} : List (Lit × DataW H) → Nat
  | [] => 0
  | x :: r => uptoBulkEntry x + uptoBulkEntries r
def uptoBulkEntry {H : Type} : Lit × DataW H → Nat
  | (.string bytes, d) => bytes.length + uptoBulk d + 1
  | (_, d) => uptoBulk d + 1
 end
def uptoSmall : (H : Type) → List (DataW H) → Bool := fun _ ds => decide (uptoBulkAll ds ≤ 1048576)
def OpenSpec.upto (s : _root_.Go.ChangeSpec) : _root_.Go.OpenSpec := { _root_.Go.OpenSpec.ofChange s with cond := some uptoSmall }

/-- 'marqueelaw30.ComposeChanges', WHERE WHAT IT READS IS OF BULK AT MOST 1048576: true; the input reads as it did. -/
def composeChangesUptoRow : OpenClaim := { program := "ytkelbhcaecojkaa", sum := "cb545eb47dbc85b488b09d27baabe1c12b5183645b50b5dd9172e0c4cf217ee7", func := "marquee/marqueelaw30.ComposeChanges", spec := "composeChanges", inPlace := ["internal/abi.NoEscape"], unfollowed := true, recurses := true, plainKeys := false, apart := false, narrowed := true }
def ComposeChangesUptoSaid : Prop := composeChangesUptoRow.holds Try.pinned (OpenSpec.upto composeChangesSpec)

/-- 'marqueelaw30.ComposeShows', WHERE WHAT IT READS IS OF BULK AT MOST 1048576: true; the input reads as it did. -/
def composeShowsUptoRow : OpenClaim := { program := "ytkelbhcaecojkaa", sum := "cb545eb47dbc85b488b09d27baabe1c12b5183645b50b5dd9172e0c4cf217ee7", func := "marquee/marqueelaw30.ComposeShows", spec := "composeShows", inPlace := ["internal/abi.NoEscape"], unfollowed := true, recurses := true, plainKeys := false, apart := false, narrowed := true }
def ComposeShowsUptoSaid : Prop := composeShowsUptoRow.holds Try.pinned (OpenSpec.upto composeShowsSpec)

/-- 'marqueelaw30.ComposeBlind', WHERE WHAT IT READS IS OF BULK AT MOST 1048576: true; the input reads as it did. -/
def composeBlindUptoRow : OpenClaim := { program := "ytkelbhcaecojkaa", sum := "cb545eb47dbc85b488b09d27baabe1c12b5183645b50b5dd9172e0c4cf217ee7", func := "marquee/marqueelaw30.ComposeBlind", spec := "composeBlind", inPlace := ["internal/abi.NoEscape"], unfollowed := true, recurses := true, plainKeys := false, apart := false, narrowed := true }
def ComposeBlindUptoSaid : Prop := composeBlindUptoRow.holds Try.pinned (OpenSpec.upto composeBlindSpec)

/-- 'marqueelaw30.ComposeBanner', WHERE WHAT IT READS IS OF BULK AT MOST 1048576: true; the input reads as it did. -/
def composeBannerUptoRow : OpenClaim := { program := "ytkelbhcaecojkaa", sum := "cb545eb47dbc85b488b09d27baabe1c12b5183645b50b5dd9172e0c4cf217ee7", func := "marquee/marqueelaw30.ComposeBanner", spec := "composeBanner", inPlace := ["internal/abi.NoEscape"], unfollowed := true, recurses := true, plainKeys := false, apart := false, narrowed := true }
def ComposeBannerUptoSaid : Prop := composeBannerUptoRow.holds Try.pinned (OpenSpec.upto composeBannerSpec)

/-- 'marqueelaw30.ComposeKnown', WHERE WHAT IT READS IS OF BULK AT MOST 1048576: true; the input reads as it did. -/
def composeKnownUptoRow : OpenClaim := { program := "ytkelbhcaecojkaa", sum := "cb545eb47dbc85b488b09d27baabe1c12b5183645b50b5dd9172e0c4cf217ee7", func := "marquee/marqueelaw30.ComposeKnown", spec := "composeKnown", inPlace := ["internal/abi.NoEscape"], unfollowed := true, recurses := true, plainKeys := false, apart := false, narrowed := true }
def ComposeKnownUptoSaid : Prop := composeKnownUptoRow.holds Try.pinned (OpenSpec.upto composeKnownSpec)

end Rows
end Go.Proofs.Ytkelbhcaecojkaa
