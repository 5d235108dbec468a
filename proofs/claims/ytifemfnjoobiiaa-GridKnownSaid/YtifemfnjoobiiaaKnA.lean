/- The first part of the law GridKnown, run by the kernel call by call. -/
import Derived.Test.YtifemfnjoobiiaaGridP
import Derived.Test.YtifemfnjoobiiaaVcLK
namespace Go.Proofs.Ytifemfnjoobiiaa.Run
open Go Go.RowKit
set_option linter.unusedVariables false
set_option linter.unusedSimpArgs false
set_option maxRecDepth 1000000
noncomputable def runK (f : Nat) (args : List Value) (M : Mem) : Option (Value × Mem) := callN funs known 900 (.func (.func f) #[] #[]) args M
def outV : Option (Value × Mem) → Value
 | some (v, _) => v
 | none => undef
def outM : Option (Value × Mem) → Mem
 | some (_, M) => M
 | none => ⟨0, 0, .e⟩
def gotO : Option (Value × Mem) → Bool
 | some _ => true
 | none => false
theorem gotO_eq {x : Option (Value × Mem)} (h : gotO x = true) : x = some (outV x, outM x) := by
 cases x with
 | none => cases h
 | some p => rfl
def wideC : Ce := { zeroC with rune := 20013 }
def xC : Ce := { zeroC with rune := 120 }
abbrev ZV : List Value := [.int .i32 0, .int .i32 0, .int .i32 0, .int .u8 0, .int .u8 0, .int .u8 0, .int .u8 0, .int .u8 0, .int .u8 0, .int .u8 0, .int .u8 0, .int .u8 0, .int .u16 0, .int .u8 0]
noncomputable def kS1 := runK n_grid_New [.int .i64 2, .int .i64 3, zeroC.val] ⟨0, 0, .e⟩
abbrev kR : Value := .pointer (some ⟨1, 0, none⟩)
noncomputable def kM1 := outM kS1
noncomputable def kS2 := runK n_grid_Grid_Put [kR, posV 0 1, wideC.val, .bool true] kM1
noncomputable def kM2 := outM kS2
noncomputable def kS3 := runK n_grid_Grid_Put [kR, posV 1 2, wideC.val, .bool true] kM2
noncomputable def kM3 := outM kS3
noncomputable def kS4 := runK n_grid_Grid_Put [kR, posV 2 0, xC.val, .bool false] kM3
noncomputable def kM4 := outM kS4
noncomputable def kS5 := runK n_grid_Grid_Put [kR, posV 0 3, xC.val, .bool false] kM4
noncomputable def kM5 := outM kS5
noncomputable def kL6 := opSem (.lit 9 2 [(.string (bs [])), (.string (bs []))] [(0, (1, (.const (.string (bs [32, 228, 184, 173]))))), (1, (1, (.const (.string (bs [32, 32, 32])))))]) [] kM5
noncomputable def kM6 := outM kL6
noncomputable def kS7 := runK n_law11_texts [kR, outV kL6] kM6
noncomputable def kM7 := outM kS7
noncomputable def kS8 := runK n_grid_Grid_At [kR, posV 0 1] kM7
noncomputable def kM8 := outM kS8
noncomputable def kE8 := opSem (.extract (.const (outV kS8)) 0) [] kM8
noncomputable def kF8 := opSem (.extract (.const (outV kS8)) 1) [] kM8
noncomputable def kC0 : List Value := splice ZV 0 (Value.cells (outV kE8)).toList
noncomputable def kM9 := (kM8.push (.cells ZV 42 true)).set kM8.size (.cells kC0 42 true)
noncomputable def kS10 := runK n_grid_Grid_At [kR, posV 0 2] kM9
noncomputable def kM10 := outM kS10
noncomputable def kE10 := opSem (.extract (.const (outV kS10)) 0) [] kM10
noncomputable def kF10 := opSem (.extract (.const (outV kS10)) 1) [] kM10
noncomputable def kC1 : List Value := splice ZV 0 (Value.cells (outV kE10)).toList
noncomputable def kM11 := (kM10.push (.cells ZV 42 true)).set kM10.size (.cells kC1 42 true)
noncomputable def kS12 := runK n_grid_Grid_Resize [kR, .int .i64 2, .int .i64 2, zeroC.val] kM11
noncomputable def kM12 := outM kS12
noncomputable def kL13 := opSem (.lit 9 2 [(.string (bs [])), (.string (bs []))] [(0, (1, (.const (.string (bs [32, 32]))))), (1, (1, (.const (.string (bs [32, 32])))))]) [] kM12
noncomputable def kM13 := outM kL13
noncomputable def kS14 := runK n_law11_texts [kR, outV kL13] kM13
noncomputable def kM14 := outM kS14
noncomputable def kAll : Bool := gotO kS2 && gotO kS3 && gotO kS4 && gotO kS5 && gotO kL6 && gotO kS8 && gotO kE8 && gotO kF8 && gotO kS10 && gotO kE10 && gotO kF10 && gotO kL13
theorem kAll_ok : (kAll, outV kS1, gotO kS1, outV kS7, gotO kS7, outV kS12, gotO kS12, outV kS14, gotO kS14, kM14.base, kM8.size, kM10.size) = (true, kR, true, .bool true, true, .bool true, true, .bool true, true, 0, 90, 94) := by kernel_rfl
theorem kCells_ok : ((Value.cells (outV kE8)).size, notTup (outV kE8), (Value.cells (outV kE10)).size, notTup (outV kE10), kC0[3]?, kC1[3]?) = (14, true, 14, true, some (.int .u8 1), some (.int .u8 2)) := by kernel_rfl
theorem kMem_ok : (kM14.size, kM14.get 1, kM14.get 10, kM14.get 109, kM14.get 118) = (154, some (.cells [.slice (some ⟨10, 0, some 0⟩) 2 2, .int .i64 2] 95 true), some (.cells [.slice (some ⟨109, 0, none⟩) 2 2, .slice (some ⟨118, 0, none⟩) 2 2] 26 true), some (.cells (flat [zeroC, zeroC]) 42 true), some (.cells (flat [zeroC, zeroC]) 42 true)) := by kernel_rfl
theorem kKeep_ok : (kM10.get 90, kM12.get 90, kM12.get 94, kM13.get 90, kM13.get 94, kM14.get 90, kM14.get 94) = (some (.cells kC0 42 true), some (.cells kC0 42 true), some (.cells kC1 42 true), some (.cells kC0 42 true), some (.cells kC1 42 true), some (.cells kC0 42 true), some (.cells kC1 42 true)) := by kernel_rfl
theorem kKeep11_ok : (kM11.get 90, kM11.get 94, kM9.get 90) = (some (.cells kC0 42 true), some (.cells kC1 42 true), some (.cells kC0 42 true)) := by kernel_rfl
end Go.Proofs.Ytifemfnjoobiiaa.Run
