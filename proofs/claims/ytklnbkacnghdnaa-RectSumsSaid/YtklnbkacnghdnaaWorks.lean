/- A function of the program without parameters that a law calls first: run by the kernel over this session's own interpreter, it answers true; so later runs may take its answer as known. -/
import Derived.Test.YtklnbkacnghdnaaFuns
import Derived.Test.YtklnbkacnghdnaaRunR
namespace Go.Proofs.Ytklnbkacnghdnaa.Run
open Go Go.RowKit
set_option linter.unusedVariables false
def answer : Option (Value × Mem) → Option Value
  | some (v, _) => some v
  | none => none
def isTrue : Option Value → Bool
  | some (.bool true) => true
  | _ => false
set_option maxRecDepth 1000000 in
theorem worksRan : isTrue (answer (callN funs (fun _ _ _ => none) 900 (.func (.func 8) #[] #[]) [] ⟨0, 0, .e⟩)) = true := by kernel_rfl
theorem of_ran {E : Orac} (hE : OracOK Try.prog idf E) {n f : Nat} (h : isTrue (answer (callN funs E n (.func (.func f) #[] #[]) [] ⟨0, 0, .e⟩)) = true) (w : World) :
    Calls Try.prog f #[] w fun e w' => e = .returned (.bool true) ∧ Below w.heap.size w w' := by
  cases hr : callN funs E n (.func (.func f) #[] #[]) [] ⟨0, 0, .e⟩ with
  | none => rw [hr] at h; cases h
  | some p =>
    obtain ⟨v, M⟩ := p
    rw [hr] at h
    have hv : v = .bool true := by
      unfold answer isTrue at h
      split at h
      · rename_i he; cases he; rfl
      · cases h
    subst hv
    exact run_closed (by kernel_rfl) idf_ok funs_ok hE (args := []) rfl rfl hr w
theorem worksCalls (w : World) : Calls Try.prog 8 #[] w fun e w' => e = .returned (.bool true) ∧ Below w.heap.size w w' :=
  of_ran (fun f args M r hq => by cases hq) worksRan w
def tabL : List (Int × Int) := [(97, 1), (98, 1), (99, 1), (100, 1), (101, 1), (102, 1), (103, 1), (104, 1), (105, 1), (106, 1), (107, 1), (108, 1), (109, 1), (110, 1), (111, 1), (112, 1), (113, 1), (114, 1), (115, 1), (116, 1), (117, 1), (118, 1), (119, 1), (120, 1), (121, 1), (122, 1), (0, -1), (7, -1), (20013, 2), (769, 0)]
noncomputable def tabOK (p : Int × Int) : Bool := match answer (callN funs (fun _ _ _ => none) 300 (.func (.func 38) #[] #[]) [.int .i32 p.1] ⟨0, 0, .e⟩) with
  | some (.int .i64 n) => decide (n = p.2)
  | _ => false
set_option maxRecDepth 1000000 in
theorem tabRan0 : tabOK (97, 1) = true := by kernel_rfl
set_option maxRecDepth 1000000 in
theorem tabRan1 : tabOK (98, 1) = true := by kernel_rfl
set_option maxRecDepth 1000000 in
theorem tabRan2 : tabOK (99, 1) = true := by kernel_rfl
set_option maxRecDepth 1000000 in
theorem tabRan3 : tabOK (100, 1) = true := by kernel_rfl
set_option maxRecDepth 1000000 in
theorem tabRan4 : tabOK (101, 1) = true := by kernel_rfl
set_option maxRecDepth 1000000 in
theorem tabRan5 : tabOK (102, 1) = true := by kernel_rfl
set_option maxRecDepth 1000000 in
theorem tabRan6 : tabOK (103, 1) = true := by kernel_rfl
set_option maxRecDepth 1000000 in
theorem tabRan7 : tabOK (104, 1) = true := by kernel_rfl
set_option maxRecDepth 1000000 in
theorem tabRan8 : tabOK (105, 1) = true := by kernel_rfl
set_option maxRecDepth 1000000 in
theorem tabRan9 : tabOK (106, 1) = true := by kernel_rfl
set_option maxRecDepth 1000000 in
theorem tabRan10 : tabOK (107, 1) = true := by kernel_rfl
set_option maxRecDepth 1000000 in
theorem tabRan11 : tabOK (108, 1) = true := by kernel_rfl
set_option maxRecDepth 1000000 in
theorem tabRan12 : tabOK (109, 1) = true := by kernel_rfl
set_option maxRecDepth 1000000 in
theorem tabRan13 : tabOK (110, 1) = true := by kernel_rfl
set_option maxRecDepth 1000000 in
theorem tabRan14 : tabOK (111, 1) = true := by kernel_rfl
set_option maxRecDepth 1000000 in
theorem tabRan15 : tabOK (112, 1) = true := by kernel_rfl
set_option maxRecDepth 1000000 in
theorem tabRan16 : tabOK (113, 1) = true := by kernel_rfl
set_option maxRecDepth 1000000 in
theorem tabRan17 : tabOK (114, 1) = true := by kernel_rfl
set_option maxRecDepth 1000000 in
theorem tabRan18 : tabOK (115, 1) = true := by kernel_rfl
set_option maxRecDepth 1000000 in
theorem tabRan19 : tabOK (116, 1) = true := by kernel_rfl
set_option maxRecDepth 1000000 in
theorem tabRan20 : tabOK (117, 1) = true := by kernel_rfl
set_option maxRecDepth 1000000 in
theorem tabRan21 : tabOK (118, 1) = true := by kernel_rfl
set_option maxRecDepth 1000000 in
theorem tabRan22 : tabOK (119, 1) = true := by kernel_rfl
set_option maxRecDepth 1000000 in
theorem tabRan23 : tabOK (120, 1) = true := by kernel_rfl
set_option maxRecDepth 1000000 in
theorem tabRan24 : tabOK (121, 1) = true := by kernel_rfl
set_option maxRecDepth 1000000 in
theorem tabRan25 : tabOK (122, 1) = true := by kernel_rfl
set_option maxRecDepth 1000000 in
theorem tabRan26 : tabOK (0, -1) = true := by kernel_rfl
set_option maxRecDepth 1000000 in
theorem tabRan27 : tabOK (7, -1) = true := by kernel_rfl
set_option maxRecDepth 1000000 in
theorem tabRan28 : tabOK (20013, 2) = true := by kernel_rfl
set_option maxRecDepth 1000000 in
theorem tabRan29 : tabOK (769, 0) = true := by kernel_rfl
theorem tabRan : tabL.all tabOK = true := by
  unfold tabL
  simp only [List.all_cons, List.all_nil, Bool.and_self, tabRan0, tabRan1, tabRan2, tabRan3, tabRan4, tabRan5, tabRan6, tabRan7, tabRan8, tabRan9, tabRan10, tabRan11, tabRan12, tabRan13, tabRan14, tabRan15, tabRan16, tabRan17, tabRan18, tabRan19, tabRan20, tabRan21, tabRan22, tabRan23, tabRan24, tabRan25, tabRan26, tabRan27, tabRan28, tabRan29]
def known : Orac := fun f args _ => if f = 8 then (match args with | [] => some (.bool true) | _ => none) else if f = 38 then (match args with
  | [.int .i32 r] => match tabL.find? (fun p => decide (p.1 = r)) with
    | some p => some (.int .i64 p.2)
    | none => none
  | _ => none) else none
set_option maxRecDepth 100000 in
theorem known_ok : OracOK Try.prog idf known := by
  intro f args M r h
  unfold known at h
  split at h
  · rename_i hf
    subst hf
    cases args with
    | nil => cases h; exact ⟨rfl, ⟨Try.f8, _, Try.func8, rfl, by kernel_rfl⟩, fun φ w args' _ hl => by
      have e : args' = #[] := Array.ext' (by simpa using hl.okC_eq rfl)
      rw [e]; exact worksCalls w⟩
    | cons x l => cases h
  · split at h
    · rename_i hf
      subst hf
      split at h
      · rename_i r0
        split at h
        · rename_i p hp
          cases h
          have hm := List.mem_of_find?_eq_some hp
          have he : p.1 = r0 := by simpa using List.find?_some hp
          have hk := List.all_eq_true.1 tabRan p hm
          unfold tabOK at hk
          cases hr : callN funs (fun _ _ _ => none) 300 (.func (.func 38) #[] #[]) [.int .i32 p.1] ⟨0, 0, .e⟩ with
          | none => rw [hr] at hk; cases hk
          | some q =>
            obtain ⟨v, M'⟩ := q
            rw [hr] at hk
            have hv : v = .int .i64 p.2 := by
              simp only [answer] at hk
              split at hk
              · rename_i n hn
                rw [Option.some.inj hn, of_decide_eq_true hk]
              · cases hk
            subst hv
            subst he
            exact ⟨rfl, ⟨Try.f38, _, Try.func38, rfl, by kernel_rfl⟩, fun φ w args' _ hl => run_known (by kernel_rfl) idf_ok funs_ok (fun f args M r hq => by cases hq) rfl rfl hr φ w args' hl⟩
        · cases h
      · cases h
    · cases h
end Go.Proofs.Ytklnbkacnghdnaa.Run
