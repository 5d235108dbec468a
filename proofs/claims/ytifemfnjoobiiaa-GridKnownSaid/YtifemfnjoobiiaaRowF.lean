/- What the functions of the document's answer to chapter 10 do, by which rows are drawn. -/
import Derived.Test.YtifemfnjoobiiaaRowE
namespace Go.Proofs.Ytifemfnjoobiiaa.Run
open Go Go.RowKit
set_option linter.unusedVariables false
set_option linter.unusedSimpArgs false
structure Dr where
 rune : Int
 marks : Int
 attr : Int
 wide : Bool
 high : Bool
instance : Enc Dr := ⟨5, fun d => [.int .u8 d.rune, .int .u8 d.marks, .int .u8 d.attr, .bool d.wide, .bool d.high], fun _ => rfl, by decide⟩
abbrev Dr.val (d : Dr) : Value := .agg (Enc.enc d).toArray
structure Dr.ok (d : Dr) : Prop where
 rune : 0 ≤ d.rune ∧ d.rune ≤ 255
 marks : 0 ≤ d.marks ∧ d.marks ≤ 255
 attr : 0 ≤ d.attr ∧ d.attr ≤ 255
def attrF (n : Int) : At9 := ⟨n % 3, n % 5, 0, 0, n / 3 % 2, n % 2, 0, 0, n % 4⟩
def cellF (d : Dr) : Ce := ⟨97 + d.rune % 26, if 1 ≤ d.marks % 8 then 769 else 0, if 2 ≤ d.marks % 8 then 769 else 0, 0, attrF d.attr, if d.high then 1 else 0⟩
section
variable {M : Mem} {Q : Value → Mem → Prop}
end
end Go.Proofs.Ytifemfnjoobiiaa.Run
