/- The law's own functions: a grid of the document's, all rows of a grid, whether each is whole, a step. -/
import Derived.Test.YtifemfnjoobiiaaGridD
import Derived.Test.YtifemfnjoobiiaaRefG
import Derived.Test.YtifemfnjoobiiaaVcA
namespace Go.Proofs.Ytifemfnjoobiiaa.Run
open Go Go.RowKit
set_option linter.unusedVariables false
set_option linter.unusedSimpArgs false
section
variable {M₀ M : Mem} {b rb C : Nat} {G : Gd} {Q : Value → Mem → Prop}
def actG (G : Gd) (C : Nat) (a : Ac) : Gd :=
 if a.kind = 0 ∨ a.kind = 1 then putG G C a.r a.c a.cell (decide (a.kind = 1)) else if a.kind = 2 then markG G C a.r a.c a.mark a.cell.label
 else if a.kind = 3 then insertG G C a.r a.c a.n a.cell else if a.kind = 4 then deleteG G C a.r a.c a.n a.cell else eraseG G a.r a.c a.n a.cell
def doesF (s : Sp) (G : Gd) (C : Nat) : Gd × Nat × Gd :=
 if s.what % 10 = 6 ∨ s.what % 10 = 7 then ((scrollG (decide (s.what % 10 = 6)) G C (regionF s G.length).1 (regionF s G.length).2.1 (regionF s G.length).2.2 (blankS s)).1, C, (scrollG (decide (s.what % 10 = 6)) G C (regionF s G.length).1 (regionF s G.length).2.1 (regionF s G.length).2.2 (blankS s)).2)
 else if s.what % 10 = 8 then (raiseG G (blankS s).label, C, [])
 else if s.what % 10 = 9 then (if mayB (s.n % 12) (s.m % 24) then (resizeG G (s.n % 12).toNat (s.m % 24).toNat (blankS s), (s.m % 24).toNat, []) else (G, C, []))
 else (actG G C (actF s G.length C), C, [])
end
end Go.Proofs.Ytifemfnjoobiiaa.Run
