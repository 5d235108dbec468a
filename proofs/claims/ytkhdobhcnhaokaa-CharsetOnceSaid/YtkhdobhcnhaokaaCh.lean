/- The answers of the functions of the chapter 'charset', taken as known. -/
import Derived.Test.YtkhdobhcnhaokaaOracs
import Derived.Test.YtkhdobhcnhaokaaSpec
namespace Go.Proofs.Ytkhdobhcnhaokaa.Run
open Go Go.RowKit
set_option linter.unusedVariables false
set_option linter.unusedSimpArgs false
set_option maxRecDepth 100000

structure Ch where
  a : Int
  b : Int
  c : Int
  d : Int
  e : Int
  f : Int
  deriving DecidableEq

def Ch.val (x : Ch) : Value := ch x.a x.b x.c x.d x.e x.f
def asCh : Value → Option Ch
  | .agg l => match l.toList with
    | [.int .u8 a, .int .u8 b, .int .u8 c, .int .u8 d, .int .u8 e, .int .u8 f] => some ⟨a, b, c, d, e, f⟩
    | _ => none
  | _ => none
theorem asCh_eq {v : Value} {x : Ch} (h : asCh v = some x) : v = x.val := by
  unfold asCh at h
  split at h
  · rename_i l
    split at h
    · rename_i hl
      cases h
      have : l = #[_, _, _, _, _, _] := Array.ext' hl
      rw [this]; rfl
    · cases h
  · cases h
@[simp] theorem asCh_val (x : Ch) : asCh x.val = some x := rfl

def Ch.desF (x : Ch) (p r : Int) : Ch × Bool :=
  if (setF r).2 = true ∧ 0 ≤ p ∧ p ≤ 3 then (if p = 0 then { x with a := (setF r).1 } else if p = 1 then { x with b := (setF r).1 } else if p = 2 then { x with c := (setF r).1 } else { x with d := (setF r).1 }, true) else (x, false)
theorem Ch.des_eq (x : Ch) (p r : Int) : Run.desF x.a x.b x.c x.d x.e x.f p r = ((x.desF p r).1.val, (x.desF p r).2) := by
  unfold Run.desF Ch.desF
  split
  · repeat (first | rfl | split)
  · rfl
def Ch.lockF (x : Ch) (r : Int) : Ch × Bool := ({ x with e := if r = 14 then 1 else if r = 15 then 0 else x.e }, decide (r = 14 ∨ r = 15))
def Ch.singleF (x : Ch) (r : Int) : Ch × Bool := ({ x with f := if r = 2 then 2 else if r = 3 then 3 else x.f }, decide (r = 2 ∨ r = 3))
def Ch.nowF (x : Ch) : Int := Run.nowF x.e x.f
def Ch.get (x : Ch) (i : Int) : Int := if i = 2 then x.c else if i = 3 then x.d else if i = 0 then x.a else x.b
def Ch.mapF (x : Ch) (r : Int) : Ch × Int := ({ x with f := 0 }, ofF (if x.f = 2 then x.c else if x.f = 3 then x.d else if x.e = 0 then x.a else x.b) r)
/-- a choice as it can be -/
def Ch.ok (x : Ch) : Prop := (0 ≤ x.a ∧ x.a ≤ 2) ∧ (0 ≤ x.b ∧ x.b ≤ 2) ∧ (0 ≤ x.c ∧ x.c ≤ 2) ∧ (0 ≤ x.d ∧ x.d ≤ 2) ∧ (x.e = 0 ∨ x.e = 1) ∧ (x.f = 0 ∨ x.f = 2 ∨ x.f = 3)
instance (x : Ch) : Decidable x.ok := by unfold Ch.ok; infer_instance
theorem Ch.val_ok (x : Ch) : okC x.val = true := rfl

def Ch.setsV (x : Ch) : Value := .agg #[.int .i64 x.a, .int .i64 x.b, .int .i64 x.c, .int .i64 x.d]

def chE : Orac := fun f args _ =>
  if f = 11 then (match args with | [] => some (.bool true) | _ => none)
  else if f = 9 then (match args with | [.int .i64 s, .int .i32 r] => some (.int .i32 (ofF s r)) | _ => none)
  else if f = 14 then (match args with | [v, .int .i64 p, .int .u8 r] => (asCh v).map fun x => .tuple #[(x.desF p r).1.val, .bool (x.desF p r).2] | _ => none)
  else if f = 16 then (match args with | [v, .int .u8 r] => (asCh v).map fun x => .tuple #[(x.lockF r).1.val, .bool (x.lockF r).2] | _ => none)
  else if f = 18 then (match args with | [v, .int .i64 r] => (asCh v).map fun x => .tuple #[(x.singleF r).1.val, .bool (x.singleF r).2] | _ => none)
  else if f = 13 then (match args with | [v, .int .i32 r] => (asCh v).bind fun x => if x.ok then some (.tuple #[(x.mapF r).1.val, .int .i32 (x.mapF r).2]) else none | _ => none)
  else if f = 21 then (match args with | [v] => (asCh v).bind fun x => if x.ok then some x.setsV else none | _ => none)
  else if f = 22 then (match args with | [v] => (asCh v).bind fun x => if x.ok then some (.int .i64 x.nowF) else none | _ => none)
  else none

theorem chE_ok : OracOK Try.prog idf chE := by
  intro f args M r h
  unfold chE at h
  split at h
  · rename_i hf
    subst hf
    split at h
    · cases h
      exact ⟨rfl, ⟨Try.f11, _, Try.func11, rfl, by kernel_rfl⟩, fun φ w args' _ hl => by
        have e : args' = #[] := Array.ext' (by simpa using hl.okC_eq rfl)
        rw [e]; exact worksCalls w⟩
    · cases h
  split at h
  · rename_i hf
    subst hf
    split at h
    · cases h
      exact ⟨rfl, ⟨Try.f9, _, Try.func9, rfl, by kernel_rfl⟩, fun φ w args' _ hl => known_of noE_ok (ofR _ _) rfl rfl φ w args' hl⟩
    · cases h
  split at h
  · rename_i hf
    subst hf
    split at h
    · rename_i v p r'
      obtain ⟨x, hx, rfl⟩ := Option.map_eq_some_iff.1 h
      obtain rfl := asCh_eq hx
      refine ⟨rfl, ⟨Try.f14, _, Try.func14, rfl, by kernel_rfl⟩, fun φ w args' _ hl => known_of noE_ok ?_ rfl rfl φ w args' hl⟩
      have := desR x.a x.b x.c x.d x.e x.f p r'
      rw [Ch.des_eq] at this
      exact this
    · cases h
  split at h
  · rename_i hf
    subst hf
    split at h
    · rename_i v r'
      obtain ⟨x, hx, rfl⟩ := Option.map_eq_some_iff.1 h
      obtain rfl := asCh_eq hx
      exact ⟨rfl, ⟨Try.f16, _, Try.func16, rfl, by kernel_rfl⟩, fun φ w args' _ hl => known_of noE_ok (lockR x.a x.b x.c x.d x.e x.f r') rfl rfl φ w args' hl⟩
    · cases h
  split at h
  · rename_i hf
    subst hf
    split at h
    · rename_i v r'
      obtain ⟨x, hx, rfl⟩ := Option.map_eq_some_iff.1 h
      obtain rfl := asCh_eq hx
      exact ⟨rfl, ⟨Try.f18, _, Try.func18, rfl, by kernel_rfl⟩, fun φ w args' _ hl => known_of noE_ok (singleR x.a x.b x.c x.d x.e x.f r') rfl rfl φ w args' hl⟩
    · cases h
  split at h
  · rename_i hf
    subst hf
    split at h
    · rename_i v r'
      obtain ⟨x, hx, h'⟩ := Option.bind_eq_some_iff.1 h
      clear h
      obtain rfl := asCh_eq hx
      split at h'
      · rename_i ho
        cases h'
        obtain ⟨o1, o2, o3, o4, o5, o6⟩ := ho
        exact ⟨rfl, ⟨Try.f13, _, Try.func13, rfl, by kernel_rfl⟩, fun φ w args' _ hl => known_of ofE_ok (mapR x.a x.b x.c x.d x.e x.f r' o1 o2 o3 o4 o5 o6) rfl rfl φ w args' hl⟩
      · cases h'
    · cases h
  split at h
  · rename_i hf
    subst hf
    split at h
    · rename_i v
      obtain ⟨x, hx, h'⟩ := Option.bind_eq_some_iff.1 h
      clear h
      obtain rfl := asCh_eq hx
      split at h'
      · rename_i ho
        cases h'
        obtain ⟨o1, o2, o3, o4, o5, o6⟩ := ho
        exact ⟨rfl, ⟨Try.f21, _, Try.func21, rfl, by kernel_rfl⟩, fun φ w args' _ hl => known_of noE_ok (setsR x.a x.b x.c x.d x.e x.f o1 o2 o3 o4) rfl rfl φ w args' hl⟩
      · cases h'
    · cases h
  split at h
  · rename_i hf
    subst hf
    split at h
    · rename_i v
      obtain ⟨x, hx, h'⟩ := Option.bind_eq_some_iff.1 h
      clear h
      obtain rfl := asCh_eq hx
      split at h'
      · rename_i ho
        cases h'
        obtain ⟨o1, o2, o3, o4, o5, o6⟩ := ho
        exact ⟨rfl, ⟨Try.f22, _, Try.func22, rfl, by kernel_rfl⟩, fun φ w args' _ hl => known_of noE_ok (nowR x.a x.b x.c x.d x.e x.f o5 o6) rfl rfl φ w args' hl⟩
      · cases h'
    · cases h
  · cases h

section
variable {M : Mem} {Q : Value → Mem → Prop}
theorem works_W (h : Q (.bool true) M) : W funs chE (.func (.func n_law05_works) #[] #[]) [] M Q := W_known rfl h
theorem of_W {s r : Int} (h : Q (.int .i32 (ofF s r)) M) : W funs chE (.func (.func n_charset_Of) #[] #[]) [.int .i64 s, .int .i32 r] M Q := W_known rfl h
theorem des_W {x : Ch} {p r : Int} (h : Q (.tuple #[(x.desF p r).1.val, .bool (x.desF p r).2]) M) : W funs chE (.func (.func n_charset_Choice_Designate) #[] #[]) [x.val, .int .i64 p, .int .u8 r] M Q := W_known rfl h
theorem lock_W {x : Ch} {r : Int} (h : Q (.tuple #[(x.lockF r).1.val, .bool (x.lockF r).2]) M) : W funs chE (.func (.func n_charset_Choice_Lock) #[] #[]) [x.val, .int .u8 r] M Q := W_known rfl h
theorem single_W {x : Ch} {r : Int} (h : Q (.tuple #[(x.singleF r).1.val, .bool (x.singleF r).2]) M) : W funs chE (.func (.func n_charset_Choice_Single) #[] #[]) [x.val, .int .i64 r] M Q := W_known rfl h
theorem map_W {x : Ch} (ho : x.ok) {r : Int} (h : Q (.tuple #[(x.mapF r).1.val, .int .i32 (x.mapF r).2]) M) : W funs chE (.func (.func n_charset_Choice_Map) #[] #[]) [x.val, .int .i32 r] M Q :=
  W_known (by rw [show chE n_charset_Choice_Map [x.val, .int .i32 r] M = (if x.ok then some (.tuple #[(x.mapF r).1.val, .int .i32 (x.mapF r).2]) else none) from rfl, if_pos ho]) h
theorem sets_W {x : Ch} (ho : x.ok) (h : Q x.setsV M) : W funs chE (.func (.func n_charset_Choice_Sets) #[] #[]) [x.val] M Q :=
  W_known (by rw [show chE n_charset_Choice_Sets [x.val] M = (if x.ok then some x.setsV else none) from rfl, if_pos ho]) h
theorem now_W {x : Ch} (ho : x.ok) (h : Q (.int .i64 x.nowF) M) : W funs chE (.func (.func n_charset_Choice_Now) #[] #[]) [x.val] M Q :=
  W_known (by rw [show chE n_charset_Choice_Now [x.val] M = (if x.ok then some (.int .i64 x.nowF) else none) from rfl, if_pos ho]) h
end
end Go.Proofs.Ytkhdobhcnhaokaa.Run
