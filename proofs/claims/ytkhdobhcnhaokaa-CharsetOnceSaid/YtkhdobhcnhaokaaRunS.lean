/- Runs of this session's own interpreter with a script: at an operation that can't be worked out (a number in it is open) the script says what it answers, and that it does so is noted as a condition. -/
import Derived.Test.YtkhdobhcnhaokaaRunR
namespace Go.Proofs.Ytkhdobhcnhaokaa.Run
open Go Go.RowKit
set_option linter.unusedVariables false
set_option linter.unusedSimpArgs false

/-- so many operations worked out; or what the next one answers, memory left as it is -/
inductive Ans where
  | calc (n : Nat)
  | is (v : Value)

structure Scr where
  a : List Ans
  log : List Prop

def popA : List Ans → Option Value × List Ans
  | [] => (none, [])
  | .calc 0 :: r => popA r
  | .calc (n + 1) :: r => (none, .calc n :: r)
  | .is v :: r => (some v, r)

def AllP : List Prop → Prop
  | [] => True
  | p :: l => p ∧ AllP l

/-- that an operation answers so, and leaves memory as it is -/
def Cnd (op : MOp) (t : List Value) (M : Mem) (v : Value) : Prop :=
  match op with
  | .bin o k sg x y => binV o k sg (ev t x) (ev t y) = some v
  | op => opSem op t M = some (v, M)

theorem Cnd.run {op : MOp} {t : List Value} {M : Mem} {v : Value} (h : Cnd op t M v) : opSem op t M = some (v, M) := by
  cases op <;> first | exact h | (simp only [Cnd] at h; simp only [opSem, h, Option.map_some])

abbrev CallL := Value → List Value → Mem → Scr → Option (Value × Mem × Scr)

def stepValL (cf : CallF) (call : CallL) (o : MOper) (t : List Value) (M : Mem) (S : Scr) : Option (Value × Mem × Scr) :=
  if guardOk t o.guard then
    match o.op with
    | .call f as => match popA S.a with
      | (none, r) => call (ev t f) (as.map (ev t)) M ⟨r, S.log⟩
      | (some v, r) => some (v, M, ⟨r, (cf (ev t f) (as.map (ev t)) M = some (v, M)) :: S.log⟩)
    | op => match popA S.a with
      | (none, r) => match opSem op t M with
        | some (v, M') => some (v, M', ⟨r, S.log⟩)
        | none => none
      | (some v, r) => some (v, M, ⟨r, Cnd op t M v :: S.log⟩)
  else match offV t o.guard M with
    | some (v, M') => some (v, M', S)
    | none => none

def stepQL (cf : CallF) (call : CallL) (o : MOper) (t : List Value) (M : Mem) (S : Scr) : Option (Value × Mem × Scr) :=
  if o.q = 1 then match stepValL cf call o t M.freeze S with
    | some (v, M', S') => some (v, M'.thaw M.base, S')
    | none => none
  else stepValL cf call o t M S

def runOpsL (cf : CallF) (call : CallL) : List MOper → List Value → Mem → Scr → Option (List Value × Mem × Scr)
  | [], t, M, S => some (t, M, S)
  | o :: os, t, M, S => match stepQL cf call o t M S with
    | some (v, M', S') => runOpsL cf call os (putT t o.dst v) M' S'
    | none => none

/-- a script's call answers as a call does, if what it noted holds -/
def CallSim (call : CallF) (cl : CallL) : Prop := ∀ v args M S r M' S', cl v args M S = some (r, M', S') → (∃ l, S'.log = l ++ S.log ∧ (AllP l → call v args M = some (r, M')))

theorem AllP_append {a b : List Prop} : AllP (a ++ b) ↔ AllP a ∧ AllP b := by
  induction a with
  | nil => simp [AllP]
  | cons p a ih => simp [AllP, ih, and_assoc]

section
variable {call : CallF} {cl : CallL}

theorem opL_sim {op : MOp} {t : List Value} {M M' : Mem} {S S' : Scr} {v : Value}
    (h : (match popA S.a with
      | (none, r) => match opSem op t M with
        | some (v, M') => some (v, M', (⟨r, S.log⟩ : Scr))
        | none => none
      | (some v, r) => some (v, M, ⟨r, Cnd op t M v :: S.log⟩)) = some (v, M', S')) : ∃ l, S'.log = l ++ S.log ∧ (AllP l → opSem op t M = some (v, M')) := by
  split at h
  · split at h
    · rename_i hs; cases h; exact ⟨[], rfl, fun _ => hs⟩
    · cases h
  · cases h
    exact ⟨[_], rfl, fun hl => Cnd.run hl.1⟩

theorem stepValL_sim (H : CallSim call cl) {o : MOper} {t : List Value} {M M' : Mem} {S S' : Scr} {v : Value} (h : stepValL call cl o t M S = some (v, M', S')) : ∃ l, S'.log = l ++ S.log ∧ (AllP l → stepVal call o t M = some (v, M')) := by
  obtain ⟨d, g, q, op⟩ := o
  unfold stepValL at h
  unfold stepVal
  split at h
  · rename_i hg
    rw [if_pos hg]
    cases op
    case call f as =>
      simp only at h
      split at h
      · rename_i r _
        exact H _ _ _ ⟨r, S.log⟩ _ _ _ h
      · cases h; exact ⟨[_], rfl, fun hl => hl.1⟩
    all_goals exact opL_sim h
  · rename_i hg
    rw [if_neg hg]
    split at h
    · rename_i hs; cases h; exact ⟨[], rfl, fun _ => hs⟩
    · cases h

theorem stepQL_sim (H : CallSim call cl) {o : MOper} {t : List Value} {M M' : Mem} {S S' : Scr} {v : Value} (h : stepQL call cl o t M S = some (v, M', S')) : ∃ l, S'.log = l ++ S.log ∧ (AllP l → stepQ call o t M = some (v, M')) := by
  unfold stepQL at h
  unfold stepQ
  split at h
  · rename_i hq
    rw [if_pos hq]
    split at h
    · rename_i hs
      cases h
      obtain ⟨l, h1, h2⟩ := stepValL_sim H hs
      exact ⟨l, h1, fun hl => by rw [h2 hl]; rfl⟩
    · cases h
  · rename_i hq
    rw [if_neg hq]
    exact stepValL_sim H h

theorem runOpsL_sim (H : CallSim call cl) : ∀ {os : List MOper} {t t' : List Value} {M M' : Mem} {S S' : Scr}, runOpsL call cl os t M S = some (t', M', S') → ∃ l, S'.log = l ++ S.log ∧ (AllP l → runOps call os t M = some (t', M'))
  | [], t, t', M, M', S, S', h => by cases h; exact ⟨[], rfl, fun _ => rfl⟩
  | o :: os, t, t', M, M', S, S', h => by
    unfold runOpsL at h
    split at h
    · rename_i v M1 S1 hs
      obtain ⟨l1, a1, b1⟩ := stepQL_sim H hs
      obtain ⟨l2, a2, b2⟩ := runOpsL_sim H h
      refine ⟨l2 ++ l1, by rw [a2, a1, List.append_assoc], fun hl => ?_⟩
      obtain ⟨p2, p1⟩ := AllP_append.1 hl
      unfold runOps
      rw [b1 p1]
      exact b2 p2
    · cases h
end

def loopNL (f : St → Scr → Option (XE × St × Scr)) : Nat → St → Scr → Option (XE × St × Scr)
  | 0, _, _ => none
  | n + 1, s, S => match f s S with
    | some (.normal, s', S') => loopNL f n s' S'
    | r => r

def execL (cf : CallF) (call : CallL) (fuel : Nat) : MCode → St → Scr → Option (XE × St × Scr)
  | .skip, s, S => some (.normal, s, S)
  | .region _ ops, s, S => match runOpsL cf call ops s.t s.M S with
    | some (t, M, S') => some (.normal, ⟨t, s.ds, M⟩, S')
    | none => none
  | .seq a b, s, S => match execL cf call fuel a s S with
    | some (.normal, s', S') => execL cf call fuel b s' S'
    | r => r
  | .cond c a b, s, S => match ev s.t c with
    | .bool true => execL cf call fuel a s S
    | .bool false => execL cf call fuel b s S
    | _ => none
  | .block id c, s, S => match execL cf call fuel c s S with
    | some (.exit i, s', S') => if i = id then some (.normal, s', S') else some (.exit i, s', S')
    | r => r
  | .loop c, s, S => loopNL (execL cf call fuel c) fuel s S
  | .exit id, s, S => some (.exit id, s, S)
  | .ret, s, S => some (.ret, s, S)
  | .rangeFunc _ _ _ _, _, _ => none

def callNL (F : Funs) (E : Orac) : Nat → CallL
  | 0 => fun _ _ _ _ => none
  | n + 1 => fun v args M S => match v with
    | .func (.func f) first cap =>
      match E f (first.toList ++ args ++ cap.toList) M with
      | some r => some (r, M, S)
      | none => match F f with
        | some m =>
          match execL (callN F E n) (callNL F E n) n m.body ⟨first.toList ++ args ++ cap.toList ++ List.replicate (m.ntmps - (first.toList ++ args ++ cap.toList).length) undef, [], M⟩ S with
          | some (.normal, s, S') | some (.ret, s, S') => match retV m s with
            | some (r, M') => some (r, M', S')
            | none => none
          | _ => none
        | none => none
    | _ => none

theorem loopNL_sim {f : St → Option (XE × St)} {g : St → Scr → Option (XE × St × Scr)} (H : ∀ s S x s' S', g s S = some (x, s', S') → ∃ l, S'.log = l ++ S.log ∧ (AllP l → f s = some (x, s'))) :
    ∀ (n : Nat) {s s' : St} {S S' : Scr} {x : XE}, loopNL g n s S = some (x, s', S') → ∃ l, S'.log = l ++ S.log ∧ (AllP l → loopN f n s = some (x, s'))
  | 0, s, s', S, S', x, h => by cases h
  | n + 1, s, s', S, S', x, h => by
    unfold loopNL at h
    split at h
    · rename_i s1 S1 h1
      obtain ⟨l1, a1, b1⟩ := H _ _ _ _ _ h1
      obtain ⟨l2, a2, b2⟩ := loopNL_sim H n h
      refine ⟨l2 ++ l1, by rw [a2, a1, List.append_assoc], fun hl => ?_⟩
      obtain ⟨p2, p1⟩ := AllP_append.1 hl
      unfold loopN
      rw [b1 p1]
      exact b2 p2
    · rename_i hne
      obtain ⟨l1, a1, b1⟩ := H _ _ _ _ _ h
      refine ⟨l1, a1, fun hl => ?_⟩
      unfold loopN
      rw [b1 hl]
      cases x with
      | normal => exact absurd h (hne _ _)
      | exit i => rfl
      | ret => rfl

theorem execL_sim {call : CallF} {cl : CallL} (H : CallSim call cl) (fuel : Nat) : ∀ (c : MCode) (s s' : St) (S S' : Scr) (x : XE), execL call cl fuel c s S = some (x, s', S') → ∃ l, S'.log = l ++ S.log ∧ (AllP l → exec call fuel none c s = some (x, s')) := by
  intro c
  induction c with
  | skip => intro s s' S S' x h; simp only [execL] at h; cases h; exact ⟨[], rfl, fun _ => rfl⟩
  | region d ops =>
    intro s s' S S' x h
    simp only [execL] at h
    split at h
    · rename_i h1
      cases h
      obtain ⟨l, a1, b1⟩ := runOpsL_sim H h1
      exact ⟨l, a1, fun hl => by simp only [exec]; rw [b1 hl]⟩
    · cases h
  | seq a b iha ihb =>
    intro s s' S S' x h
    simp only [execL] at h
    split at h
    · rename_i s1 S1 h1
      obtain ⟨l1, a1, b1⟩ := iha _ _ _ _ _ h1
      obtain ⟨l2, a2, b2⟩ := ihb _ _ _ _ _ h
      refine ⟨l2 ++ l1, by rw [a2, a1, List.append_assoc], fun hl => ?_⟩
      obtain ⟨p2, p1⟩ := AllP_append.1 hl
      simp only [exec]
      rw [b1 p1]
      exact b2 p2
    · rename_i hne
      obtain ⟨l1, a1, b1⟩ := iha _ _ _ _ _ h
      refine ⟨l1, a1, fun hl => ?_⟩
      simp only [exec]
      rw [b1 hl]
      cases x with
      | normal => exact absurd h (hne _ _)
      | exit i => rfl
      | ret => rfl
  | cond c a b iha ihb =>
    intro s s' S S' x h
    simp only [execL] at h
    split at h
    · rename_i hc
      obtain ⟨l, a1, b1⟩ := iha _ _ _ _ _ h
      exact ⟨l, a1, fun hl => by simp only [exec, hc]; exact b1 hl⟩
    · rename_i hc
      obtain ⟨l, a1, b1⟩ := ihb _ _ _ _ _ h
      exact ⟨l, a1, fun hl => by simp only [exec, hc]; exact b1 hl⟩
    · cases h
  | block id c ih =>
    intro s s' S S' x h
    simp only [execL] at h
    split at h
    · rename_i i s1 S1 h1
      obtain ⟨l, a1, b1⟩ := ih _ _ _ _ _ h1
      split at h <;> rename_i hi <;> cases h
      · exact ⟨l, a1, fun hl => by simp only [exec]; rw [b1 hl]; simp [hi]⟩
      · exact ⟨l, a1, fun hl => by simp only [exec]; rw [b1 hl]; simp [hi]⟩
    · rename_i hne
      obtain ⟨l, a1, b1⟩ := ih _ _ _ _ _ h
      refine ⟨l, a1, fun hl => ?_⟩
      simp only [exec]
      rw [b1 hl]
      cases x with
      | normal => rfl
      | exit i => exact absurd h (hne _ _ _)
      | ret => rfl
  | loop c ih =>
    intro s s' S S' x h
    simp only [execL] at h
    simp only [exec]
    exact loopNL_sim (fun s S x s' S' h => ih s s' S S' x h) fuel h
  | exit id => intro s s' S S' x h; simp only [execL] at h; cases h; exact ⟨[], rfl, fun _ => rfl⟩
  | ret => intro s s' S S' x h; simp only [execL] at h; cases h; exact ⟨[], rfl, fun _ => rfl⟩
  | rangeFunc f ps a b => intro s s' S S' x h; simp only [execL] at h; cases h

theorem callNL_sim (F : Funs) (E : Orac) : ∀ n, CallSim (callN F E n) (callNL F E n)
  | 0 => fun v args M S r M' S' h => by cases h
  | n + 1 => fun v args M S r M' S' h => by
    have ih := callNL_sim F E n
    unfold callNL at h
    unfold callN
    split at h
    · rename_i f first cap
      simp only at h ⊢
      split at h
      · rename_i q hq
        cases h
        exact ⟨[], rfl, fun _ => by rw [hq]⟩
      · rename_i hq
        split at h
        · rename_i m hm
          split at h
          · rename_i s1 S1 h1
            obtain ⟨l, a1, b1⟩ := execL_sim ih n _ _ _ _ _ _ h1
            split at h
            · rename_i hr
              cases h
              exact ⟨l, a1, fun hl => by rw [hq]; simp only [hm]; rw [b1 hl]; exact hr⟩
            · cases h
          · rename_i s1 S1 h1
            obtain ⟨l, a1, b1⟩ := execL_sim ih n _ _ _ _ _ _ h1
            split at h
            · rename_i hr
              cases h
              exact ⟨l, a1, fun hl => by rw [hq]; simp only [hm]; rw [b1 hl]; exact hr⟩
            · cases h
          · cases h
        · cases h
    · cases h

/-- What a scripted run ends in: what it noted, and what is wanted of its answer and memory. -/
def Ends : Option (Value × Mem × Scr) → (Value → Mem → Prop) → Prop
  | some (v, M, S), Q => AllP S.log ∧ Q v M
  | none, _ => False

theorem ran_of {F : Funs} {E : Orac} {n : Nat} {v : Value} {args : List Value} {M : Mem} {Q : Value → Mem → Prop} (a : List Ans) (h : Ends (callNL F E n v args M ⟨a, []⟩) Q) : ∃ r M', callN F E n v args M = some (r, M') ∧ Q r M' := by
  unfold Ends at h
  split at h
  · rename_i r M' S' hr
    obtain ⟨l, h1, h2⟩ := callNL_sim F E n _ _ _ _ _ _ _ hr
    simp only [List.append_nil] at h1
    rw [h1] at h
    exact ⟨r, M', h2 h.1, h.2⟩
  · exact h.elim

/-- The same, where answer and log are said (the kernel runs it, with open numbers in both). -/
theorem ran_log {F : Funs} {E : Orac} {n : Nat} {v : Value} {args : List Value} {M : Mem} (a : List Ans) {r : Value} {log : List Prop} (h : (callNL F E n v args M ⟨a, []⟩).map (fun p => (p.1, p.2.2.log)) = some (r, log)) (hl : AllP log) :
    (callN F E n v args M).map (·.1) = some r := by
  cases hr : callNL F E n v args M ⟨a, []⟩ with
  | none => rw [hr] at h; cases h
  | some p =>
    obtain ⟨r', M', S'⟩ := p
    rw [hr] at h
    simp only [Option.map_some, Option.some.injEq, Prod.mk.injEq] at h
    obtain ⟨rfl, rfl⟩ := h
    obtain ⟨l, h1, h2⟩ := callNL_sim F E n _ _ _ _ _ _ _ hr
    simp only [List.append_nil] at h1
    rw [h1] at hl
    rw [h2 hl]; rfl
end Go.Proofs.Ytkhdobhcnhaokaa.Run
