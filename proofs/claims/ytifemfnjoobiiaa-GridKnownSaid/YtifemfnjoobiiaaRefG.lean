/- The document's grids: new ones, drafts of them, rows that are set, steps. -/
import Derived.Test.YtifemfnjoobiiaaGridC
import Derived.Test.YtifemfnjoobiiaaRowPB
import Derived.Test.YtifemfnjoobiiaaVcE
namespace Go.Proofs.Ytifemfnjoobiiaa.Run
open Go Go.RowKit
set_option linter.unusedVariables false
set_option linter.unusedSimpArgs false
def Gr2 (M₀ M₁ M : Mem) (v : Value) (G : Gd) : Prop := ∃ P : Parts, Mine 26 M₁ M v P.row ∧ (∀ p ∈ P, Mine 42 M₀ M p.1 p.2) ∧ P.map (·.2) = G
section
variable {M₀ M₁ M M' : Mem} {v : Value} {G : Gd}
theorem Gr2.ext (e : Ext M M') (h : Gr2 M₀ M₁ M v G) : Gr2 M₀ M₁ M' v G := by
 obtain ⟨P, h1, h2, h3⟩ := h
 exact ⟨P, h1.ext e, fun p hp => (h2 p hp).ext e, h3⟩
theorem Gr2.nil : Gr2 M₀ M₁ M (.slice none 0 0) [] := ⟨[], .inr ⟨rfl, rfl⟩, by simp, rfl⟩
theorem Gr2.box (h : Gr2 M₀ M₁ M v G) {b : Nat} {c : List Value} {ty : TypeId} {w : Bool} (g : M.get b = some (.cells c ty w)) (n1 : ty ≠ 26) (n2 : ty ≠ 42) (o : AObj) : Gr2 M₀ M₁ (M.set b o) v G := by
 obtain ⟨P, h1, h2, h3⟩ := h
 have t : Touch (fun x => x = b) M (M.set b o) := Touch.set (p := fun x => x = b) (Touch.refl _ M) rfl (Mem.lt_of_get g) _
 have hk : ∀ {ty' : TypeId}, ty ≠ ty' → ∀ x, x = b → ∀ y w', M.get x ≠ some (.cells y ty' w') := fun {ty'} hne x hx y w' hy => by
  rw [hx, g] at hy
  exact hne (AObj.cells.inj (Option.some.inj hy)).2.1
 exact ⟨P, h1.imp (fun h => h.touch t (hk n1)) id, fun p hp => (h2 p hp).imp (fun h => h.touch t (hk n2)) id, h3⟩
theorem Gr2.ne (h : Gr2 M₀ M₁ M v G) {b : Nat} {c : List Value} {ty : TypeId} {w : Bool} (g : M.get b = some (.cells c ty w)) (n1 : ty ≠ 26) : blk v ≠ some b := by
 obtain ⟨P, h1, h2, h3⟩ := h
 rcases h1 with ⟨b', sp, rfl, g', _⟩ | ⟨_, rfl⟩
 ·intro e
  cases e
  rw [g'] at g
  exact n1 (AObj.cells.inj (Option.some.inj g)).2.1.symm
 ·intro e; cases e
end
section
variable {M₀ M : Mem} {Q : Value → Mem → Prop}
structure Ln where
 c : Int
 v : Value
instance : Enc Ln := ⟨2, fun a => [.int .u8 a.c, a.v], fun _ => rfl, by decide⟩
abbrev Lns := List (Ln × List Dr)
def LnsOK (M : Mem) (T : Lns) : Prop := ∀ p ∈ T, SlH M p.1.v p.2 ∧ ∀ d ∈ p.2, d.ok
theorem LnsOK.ext {M M' : Mem} (e : Ext M M') {T : Lns} (h : LnsOK M T) : LnsOK M' T := fun p hp => ⟨(h p hp).1.ext e, (h p hp).2⟩
abbrev Lns.row (T : Lns) : List Ln := T.map (·.1)
structure Sp where
 what : Int
 row : Int
 col : Int
 n : Int
 m : Int
 cell : Dr
 odd : Bool
instance : Enc Sp := ⟨11, fun s => [.int .u8 s.what, .int .u8 s.row, .int .u8 s.col, .int .u8 s.n, .int .u8 s.m, .int .u8 s.cell.rune, .int .u8 s.cell.marks, .int .u8 s.cell.attr, .bool s.cell.wide, .bool s.cell.high, .bool s.odd], fun _ => rfl, by decide⟩
abbrev Sp.val (s : Sp) : Value := .agg (Enc.enc s).toArray
structure Sp.ok (s : Sp) : Prop where
 what : 0 ≤ s.what ∧ s.what ≤ 255
 row : 0 ≤ s.row ∧ s.row ≤ 255
 col : 0 ≤ s.col ∧ s.col ≤ 255
 n : 0 ≤ s.n ∧ s.n ≤ 255
 m : 0 ≤ s.m ∧ s.m ≤ 255
 cell : s.cell.ok
def blankS (s : Sp) : Ce := blankF (cellF s.cell).attr (cellF s.cell).label
def regionF (s : Sp) (R : Int) : Int × Int × Int := if s.odd then (s.row - 2, s.m - 2, s.n - 3) else (s.row % R, s.row % R + s.m % (R - s.row % R), s.n % 9)
structure Ac where
 kind : Int
 r : Int
 c : Int
 n : Int
 cell : Ce
 mark : Int
abbrev Ac.cells (a : Ac) : List Value := [.int .i64 a.kind, .int .i64 a.r, .int .i64 a.c, .int .i64 a.n] ++ Enc.enc a.cell ++ [.int .i32 a.mark]
abbrev Ac.val (a : Ac) : Value := .agg a.cells.toArray
def actF (s : Sp) (R C : Int) : Ac := ⟨s.what % 6, if s.odd then s.row - 3 else s.row % R, if s.odd then s.col - 3 else s.col % C, if s.odd then s.n - 5 else s.n % 24, if s.what % 6 < 2 then cellF s.cell else blankS s, 769⟩
end
end Go.Proofs.Ytifemfnjoobiiaa.Run
