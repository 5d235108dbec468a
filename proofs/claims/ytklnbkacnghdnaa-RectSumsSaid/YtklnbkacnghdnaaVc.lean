/- What is to be shown of each function, loop and rest of a function, so that a run of it ends, and ends so: each is what the calculus of this session's own says, by the kernel. Written by this session's own program. -/
import Derived.Test.YtklnbkacnghdnaaSpec
import Derived.Test.YtklnbkacnghdnaaWorks
namespace Go.Proofs.Ytklnbkacnghdnaa.Run
open Go Go.RowKit
set_option linter.unusedVariables false
set_option maxRecDepth 100000
theorem label_Join_wp {a0 : Option Addr} {a0n a0c : Nat}  {M : Mem} {Q : Value → Mem → Prop} (hM : M.base ≤ M.size) (h : (W funs known (.func (.func n_label_some_Level) #[] #[]) [(.slice a0 a0n a0c), (.func (.func n_label_Join_1) #[] #[])] M (fun r1 M2 => (W funs known (.func (.func n_label_which) #[] #[]) [r1, (.int .u8 1), (.int .u8 0)] M2 (fun r3 M4 => (Q r3 M4))))))  : W funs known (.func (.func n_label_Join) #[] #[]) [(.slice a0 a0n a0c)] M Q := by
  have q : wpC funs known none mf46_b ⟨[(.v (.slice a0 a0n a0c)), (.v undef), (.v undef), (.v undef), (.v undef), (.v undef)], [], [], M⟩ (retK mf46 Q) := by
    refine Eq.mp ?_ h
    kernel_rfl
  exact W_fun (m := mf46) hM (by kernel_rfl) (by kernel_rfl) q
theorem label_which_wp {a0 : Bool} {a1 : Int} {a2 : Int}  {M : Mem} {Q : Value → Mem → Prop} (hM : M.base ≤ M.size) (h : (wpIf (.bool a0) (Q (.int .u8 a1) M) (Q (.int .u8 a2) M)))  : W funs known (.func (.func n_label_which) #[] #[]) [(.bool a0), (.int .u8 a1), (.int .u8 a2)] M Q := by
  have q : wpC funs known none mf63_b ⟨[(.v (.bool a0)), (.v (.int .u8 a1)), (.v (.int .u8 a2)), (.v undef), (.v undef), (.v undef), (.v undef), (.v undef), (.v undef), (.v undef)], [], [], M⟩ (retK mf63 Q) := by
    refine Eq.mp ?_ h
    kernel_rfl
  exact W_fun (m := mf63) hM (by kernel_rfl) (by kernel_rfl) q
theorem label_some_Level_wp {a0 : Option Addr} {a0n a0c : Nat} {a1 : Value} {h0 h1 : MCode} {M : Mem} {Q : Value → Mem → Prop} (hM : M.base ≤ M.size) (h : (∃ v1, opSem (.len 1 (.const (.slice a0 a0n a0c))) [] M = some (v1, M) ∧ (LoopW (wpC funs known none h0) ⟨[(.v (.slice a0 a0n a0c)), (.v a1), (.v undef), (.v undef), (.v (.bool false)), (.v undef), (.v undef), (.v (.slice a0 a0n a0c)), (.v v1), (.v (.int .i64 0)), (.v undef), (.v undef), (.v undef), (.v undef), (.v undef), (.v undef), (.v undef)], [], [], M⟩ (blockK 0 (seqK (fun s => wpC funs known none h1 s (retK mf64 Q)) (retK mf64 Q)))))) (e_h0 : h0 = label_some_Level_l1 := by rfl) (e_h1 : h1 = label_some_Level_c0 := by rfl) : W funs known (.func (.func n_label_some_Level) #[] #[]) [(.slice a0 a0n a0c), a1] M Q := by
  have q : wpC funs known none (mf64_b h0 h1) ⟨[(.v (.slice a0 a0n a0c)), (.v a1), (.v undef), (.v undef), (.v undef), (.v undef), (.v undef), (.v undef), (.v undef), (.v undef), (.v undef), (.v undef), (.v undef), (.v undef), (.v undef), (.v undef), (.v undef)], [], [], M⟩ (retK mf64 Q) := by
    refine Eq.mp ?_ h
    kernel_rfl
  subst e_h0 e_h1
  exact W_fun (m := mf64) hM (by kernel_rfl) (by kernel_rfl) q
def label_some_Level_l1_m : List Bool := [true, false, true, true, true, true, true, false, false, false, true, true, true, true, true, true, true]
abbrev label_some_Level_l1_s (x1 x7 x8 x9 : Value)  (ds : List Nat) (M : Mem) : LS := ⟨[.any, (.v x1), .any, .any, .any, .any, .any, (.v x7), (.v x8), (.v x9), .any, .any, .any, .any, .any, .any, .any], [], ds, M⟩
theorem label_some_Level_l1_wp {ar : Option Nat} {x1 x7 x8 x9 : Value}   {ds : List Nat} {M : Mem} {k : Nat} {I : Nat → LS → Prop} {Q : XE → LS → Prop} (h : (∃ v1, binV .lss 0 [] x9 x8 = some v1 ∧ (wpIf v1 (∃ v2, opSem (.addrL 1 (.const x7) (.const x9)) [] M = some (v2, M) ∧ (∃ v3, opSem (.load none (.const v2)) [] M = some (v3, M) ∧ (W funs known x1 [v3] M (fun r4 M5 => (wpIf r4 (Q .ret ⟨[.any, (.v x1), .any, .any, (.v (.bool true)), .any, (.v v3), (.v x7), (.v x8), (.v x9), (.v (.bool true)), (.v v2), (.v v3), (.v x1), (.v v3), (.v (.bool true)), .any], [], ds, M5⟩) (∃ v6, binV .add 0 [] x9 (.int .i64 1) = some v6 ∧ (∃ j, j < k ∧ I j (label_some_Level_l1_s x1 x7 x8 v6 ds M5)))))))) (Q (.exit 0) ⟨[.any, (.v x1), .any, .any, .any, .any, .any, (.v x7), (.v x8), (.v x9), (.v (.bool false)), .any, .any, .any, .any, .any, .any], [], ds, M⟩))))  : wpC funs known ar label_some_Level_l1 (label_some_Level_l1_s x1 x7 x8 x9 ds M) (cutK 0 (seqK (fun s' => ∃ j, j < k ∧ I j (s'.forget label_some_Level_l1_m)) Q)) := by
  have q : wpC funs known ar label_some_Level_l1 (label_some_Level_l1_s x1 x7 x8 x9 ds M) (cutK 0 (seqK (fun s' => ∃ j, j < k ∧ I j (s'.forget label_some_Level_l1_m)) Q)) := by
    refine Eq.mp ?_ h
    kernel_rfl
  exact q
abbrev label_some_Level_c0_q    (M : Mem) (Q : Value → Mem → Prop) : Prop := (Q (.bool false) M)
theorem label_some_Level_c0_wp  {y0 y1 y2 y3 y4 y5 y6 y7 y8 y9 y10 y11 y12 y13 y14 y15 y16 : LV}    {M : Mem} {Q : Value → Mem → Prop} (h : label_some_Level_c0_q   M Q)  : wpC funs known none label_some_Level_c0 ⟨[y0, y1, y2, y3, y4, y5, y6, y7, y8, y9, y10, y11, y12, y13, y14, y15, y16], [], [], M⟩ (retK mf64 Q) := by
  have q : wpC funs known none label_some_Level_c0 ⟨[y0, y1, y2, y3, y4, y5, y6, y7, y8, y9, y10, y11, y12, y13, y14, y15, y16], [], [], M⟩ (retK mf64 Q) := by
    refine Eq.mp ?_ h
    kernel_rfl
  exact q
theorem label_Join_1_wp {a0 : Int}  {M : Mem} {Q : Value → Mem → Prop} (hM : M.base ≤ M.size) (h : (∃ v1, binV .gtr 0 [] (.int .u8 a0) (.int .u8 0) = some v1 ∧ (Q v1 M)))  : W funs known (.func (.func n_label_Join_1) #[] #[]) [(.int .u8 a0)] M Q := by
  have q : wpC funs known none mf65_b ⟨[(.v (.int .u8 a0)), (.v undef), (.v undef), (.v undef), (.v undef)], [], [], M⟩ (retK mf65 Q) := by
    refine Eq.mp ?_ h
    kernel_rfl
  exact W_fun (m := mf65) hM (by kernel_rfl) (by kernel_rfl) q
end Go.Proofs.Ytklnbkacnghdnaa.Run
