/- Words and laws for showing what a function does, over the calculus RunW: memory that only grows, rows of like things in it, single operations. No statement of the program's is proved here. -/
import Derived.Test.YtifemfnjoobiiaaRunW
import Derived.IntWalk
namespace Go.Proofs.Ytifemfnjoobiiaa.Run
open Go Go.RowKit
set_option linter.unusedVariables false
set_option linter.unusedSimpArgs false
structure Ext (M M' : Mem) : Prop where
 base : M'.base = M.base
 size : M.size ≤ M'.size
 get : ∀ b, b < M.size → M'.get b = M.get b
theorem Ext.refl (M : Mem) : Ext M M := ⟨rfl, Nat.le_refl _, fun _ _ => rfl⟩
theorem Ext.trans {A B C : Mem} (h : Ext A B) (k : Ext B C) : Ext A C := ⟨k.base.trans h.base, Nat.le_trans h.size k.size, fun b hb => (k.get b (Nat.lt_of_lt_of_le hb h.size)).trans (h.get b hb)⟩
theorem Ext.push (M : Mem) (o : AObj) : Ext M (M.push o) := ⟨rfl, by simp, fun b hb => by rw [Mem.get_push, if_neg (by omega)]⟩
theorem Ext.push' {M M' : Mem} {o : AObj} (h : M' = M.push o) : Ext M M' := h ▸ Ext.push M o
theorem Ext.set {M N : Mem} (h : Ext M N) {b : Nat} (hb : M.size ≤ b) (hn : b < N.size) (o : AObj) : Ext M (N.set b o) := ⟨h.base, h.size, fun c hc => by rw [Mem.get_set _ _ _ hn, if_neg (by omega)]; exact h.get c hc⟩
theorem Ext.thaw {M M' : Mem} (h : Ext M.freeze M') : Ext M (M'.thaw M.base) := ⟨rfl, h.size, h.get⟩
theorem Ext.keep {M M' : Mem} (h : Ext M M') (bs : List Nat) : KeepB bs M M' := fun b _ hb => h.get b hb
theorem Ext.keepF {M M' : Mem} (h : Ext M.freeze M') (bs : List Nat) : KeepB bs M M' := fun b _ hb => h.get b hb
theorem KeepB.refl (bs : List Nat) (M : Mem) : KeepB bs M M := fun _ _ _ => rfl
theorem Ext.ok {M M' : Mem} (h : Ext M M') (hb : M.base ≤ M.size) : M'.base ≤ M'.size := by have := h.base; have := h.size; omega
theorem Ext.same {M M' : Mem} (h : Ext M M') {b : Nat} {o : AObj} (hb : M.get b = some o) : M'.get b = some o := (h.get b (Mem.lt_of_get hb)).trans hb
theorem freeze_ok (M : Mem) : M.freeze.base ≤ M.freeze.size := Nat.le_refl _
section
variable {P : Value → Prop}
theorem i64_ok {n : Int} (h : -9223372036854775808 ≤ n) (k : n ≤ 9223372036854775807) : IntKind.i64.wrap n = n := IntWalk.i64_in n ⟨h, k⟩
theorem add64 {x y : Int} (h : -9223372036854775808 ≤ x + y) (k : x + y ≤ 9223372036854775807) : binV .add 0 [] (.int .i64 x) (.int .i64 y) = some (.int .i64 (x + y)) := by
 show some (Value.int .i64 (IntKind.i64.wrap (x + y))) = _; rw [i64_ok h k]
theorem sub64 {x y : Int} (h : -9223372036854775808 ≤ x - y) (k : x - y ≤ 9223372036854775807) : binV .sub 0 [] (.int .i64 x) (.int .i64 y) = some (.int .i64 (x - y)) := by
 show some (Value.int .i64 (IntKind.i64.wrap (x - y))) = _; rw [i64_ok h k]
theorem step_add {x y : Int} (h : -9223372036854775808 ≤ x + y) (k : x + y ≤ 9223372036854775807) (p : P (.int .i64 (x + y))) : ∃ v, binV .add 0 [] (.int .i64 x) (.int .i64 y) = some v ∧ P v := ⟨_, add64 h k, p⟩
theorem step_sub {x y : Int} (h : -9223372036854775808 ≤ x - y) (k : x - y ≤ 9223372036854775807) (p : P (.int .i64 (x - y))) : ∃ v, binV .sub 0 [] (.int .i64 x) (.int .i64 y) = some v ∧ P v := ⟨_, sub64 h k, p⟩
theorem step_lss {j : IntKind} {x y : Int} (p : P (.bool (decide (x < y)))) : ∃ v, binV .lss 0 [] (.int j x) (.int j y) = some v ∧ P v := ⟨_, by simp [binV, isShift, intOp], p⟩
theorem step_leq {j : IntKind} {x y : Int} (p : P (.bool (decide (x ≤ y)))) : ∃ v, binV .leq 0 [] (.int j x) (.int j y) = some v ∧ P v := ⟨_, by simp [binV, isShift, intOp], p⟩
theorem step_gtr {j : IntKind} {x y : Int} (p : P (.bool (decide (x > y)))) : ∃ v, binV .gtr 0 [] (.int j x) (.int j y) = some v ∧ P v := ⟨_, by simp [binV, isShift, intOp], p⟩
theorem step_geq {j : IntKind} {x y : Int} (p : P (.bool (decide (x ≥ y)))) : ∃ v, binV .geq 0 [] (.int j x) (.int j y) = some v ∧ P v := ⟨_, by simp [binV, isShift, intOp], p⟩
theorem step_eql {j : IntKind} {x y : Int} (p : P (.bool (decide (x = y)))) : ∃ v, binV .eql 0 [] (.int j x) (.int j y) = some v ∧ P v :=
 ⟨.bool (decide (x = y)), by simp only [binV, isShift, Bool.false_eq_true, if_false, if_true, intOp]; rfl, p⟩
theorem step_len {a : Option Addr} {n c : Nat} {M : Mem} (p : P (.int .i64 n)) : ∃ v, opSem (.len 1 (.const (.slice a n c))) [] M = some (v, M) ∧ P v := ⟨_, rfl, p⟩
end
theorem wpIf.tt {A B : Prop} (h : A) : wpIf (.bool true) A B := h
theorem wpIf.ff {A B : Prop} (h : B) : wpIf (.bool false) A B := h
theorem step_max {P : Value → Prop} {j k : IntKind} {x y : Int} {M : Mem} (p : P (.int j (max x y))) : ∃ v, opSem (.minmax true (.const (.int j x)) [(.const (.int k y))]) [] M = some (v, M) ∧ P v := by
 refine ⟨.int j (max x y), ?_, p⟩
 have : (if y > x then y else x) = max x y := by split <;> omega
 simp only [opSem, ev, List.map_cons, List.map_nil, minmaxV, if_true, this, Option.map_some]
theorem step_min {P : Value → Prop} {j k : IntKind} {x y : Int} {M : Mem} (p : P (.int j (min x y))) : ∃ v, opSem (.minmax false (.const (.int j x)) [(.const (.int k y))]) [] M = some (v, M) ∧ P v := by
 refine ⟨.int j (min x y), ?_, p⟩
 have : (if y < x then y else x) = min x y := by split <;> omega
 simp only [opSem, ev, List.map_cons, List.map_nil, minmaxV, Bool.false_eq_true, if_false, this, Option.map_some]
theorem q_of {Q : Value → Mem → Prop} {b b' : Bool} {M : Mem} (q : Q (.bool b') M) (h : b' = b) : Q (.bool b) M := h ▸ q
theorem LGetN.as {c : List Value} {o n : Nat} {k : Value → Prop} (v : Value) (h : o + n ≤ c.length) (e : Value.agg ((c.drop o).take n).toArray = v) (q : k v) : LGetN c o n k := LGetN.mk h (e ▸ q)
class Enc (α : Type) where
 k : Nat
 enc : α → List Value
 len : ∀ a, (enc a).length = k
 pos : 0 < k
section
variable {α : Type} [E : Enc α]
def flat (A : List α) : List Value := A.flatMap E.enc
@[simp] theorem flat_nil : flat ([] : List α) = [] := rfl
@[simp] theorem flat_cons (a : α) (A : List α) : flat (a :: A) = E.enc a ++ flat A := rfl
@[simp] theorem flat_append (A B : List α) : flat (A ++ B) = flat A ++ flat B := by simp [flat]
theorem flat_len (A : List α) : (flat A).length = A.length * E.k := by
 induction A with
 | nil => simp
 | cons a A ih => simp only [flat_cons, List.length_append, E.len, ih, List.length_cons]; rw [Nat.add_mul]; omega
theorem flat_drop (A : List α) : ∀ o, (flat A).drop (o * E.k) = flat (A.drop o) := by
 induction A with
 | nil => intro o; simp
 | cons a A ih =>
  intro o
  cases o with
  | zero => simp
  | succ o =>
   rw [flat_cons, List.drop_append, E.len]
   have h1 : (o + 1) * E.k = E.k + o * E.k := by rw [Nat.add_mul]; omega
   rw [h1, Nat.add_sub_cancel_left, ih, List.drop_of_length_le (by rw [E.len]; omega)]
   rfl
theorem flat_take (A : List α) : ∀ n, (flat A).take (n * E.k) = flat (A.take n) := by
 induction A with
 | nil => intro n; simp
 | cons a A ih =>
  intro n
  cases n with
  | zero => simp
  | succ n =>
   rw [flat_cons, List.take_append, E.len]
   have h1 : (n + 1) * E.k = E.k + n * E.k := by rw [Nat.add_mul]; omega
   rw [h1, Nat.add_sub_cancel_left, ih, List.take_of_length_le (by rw [E.len]; omega)]
   rfl
theorem flat_replicate (n : Nat) (a : α) : flat (List.replicate n a) = rep n (E.enc a) := by
 simp only [flat, rep, List.flatMap_replicate]
theorem flat_at {A : List α} {i : Nat} {a : α} (h : A[i]? = some a) : ((flat A).drop (i * E.k)).take E.k = E.enc a := by
 rw [flat_drop]
 obtain ⟨hi, rfl⟩ := List.getElem?_eq_some_iff.1 h
 rw [List.drop_eq_getElem_cons hi, flat_cons, List.take_append, E.len, Nat.sub_self, List.take_zero, List.append_nil, List.take_of_length_le (by rw [E.len]; omega)]
theorem allSome_eq : ∀ {l : List (Option Value)} {r : List Value}, allSome l = some r → l = r.map some
 | [], r, h => by simp [allSome] at h; subst h; rfl
 | none :: l, r, h => by simp [allSome] at h
 | some x :: l, r, h => by
  simp only [allSome] at h
  split at h
  ·rename_i q hq; cases h; rw [allSome_eq hq]; rfl
  ·cases h
theorem allSome_map : ∀ r : List Value, allSome (r.map some) = some r
 | [] => rfl
 | x :: r => by simp only [List.map_cons, allSome, allSome_map r]
omit E in
theorem loadN_sub {M : Mem} {b off n : Nat} {l : List Value} (h : M.loadN b off n = some l) {f m : Nat} (hf : f + m ≤ n) : M.loadN b (off + f) m = some ((l.drop f).take m) := by
 unfold Mem.loadN at h ⊢
 split at h
 ·split at h
  ·cases h
   rw [if_pos (by omega), List.drop_take, List.take_take, List.drop_drop, show min m (n - f) = m by omega]
  ·cases h
 ·rename_i c hg
  split at h
  ·have e := allSome_eq h
   rw [if_pos (by omega)]
   have : (c.drop (off + f)).take m = ((l.drop f).take m).map some := by
    have h1 := congrArg (fun z => (z.drop f).take m) e
    simp only [List.drop_take, List.take_take, List.drop_drop, show min m (n - f) = m by omega, List.map_drop, List.map_take] at h1 ⊢
    exact h1
   rw [this, allSome_map]
  ·cases h
 ·cases h
omit E in
theorem loadN_1 {M : Mem} {b off n : Nat} {l : List Value} (h : M.loadN b off n = some l) {f : Nat} {v : Value} (hv : l[f]? = some v) : M.load1 b (off + f) = some v := by
 unfold Mem.loadN at h
 unfold Mem.load1
 split at h
 ·split at h
  ·cases h
   rw [List.getElem?_take] at hv
   split at hv
   ·simpa using hv
   ·cases hv
  ·cases h
 ·rename_i c hg
  split at h
  ·have e := allSome_eq h
   have h1 : c[off + f]? = some (some v) := by
    have h2 : ((c.drop off).take n)[f]? = some (some v) := by rw [e, List.getElem?_map, hv]; rfl
    rw [List.getElem?_take] at h2
    split at h2
    ·simpa using h2
    ·cases h2
   simp only [h1]
  ·cases h
 ·cases h
omit E in
theorem loadN_ext {M M' : Mem} (e : Ext M M') {b off n : Nat} {l : List Value} (h : M.loadN b off n = some l) : M'.loadN b off n = some l := by
 have : M'.get b = M.get b := by
  cases hg : M.get b with
  | none => unfold Mem.loadN at h; rw [hg] at h; cases h
  | some o => rw [← hg]; exact e.get b (Mem.lt_of_get hg)
 unfold Mem.loadN at h ⊢
 rw [this]; exact h
def At (M : Mem) (p : Value) (a : α) : Prop := ∃ b off, p = .pointer (some ⟨b, off, none⟩) ∧ M.loadN b off E.k = some (E.enc a)
def Sl (M : Mem) (v : Value) (L : List α) : Prop := ∃ a cap, v = .slice a L.length cap ∧ L.length ≤ cap ∧
 (L = [] ∨ ∃ b off sp, a = some ⟨b, off, sp⟩ ∧ M.loadN b off (L.length * E.k) = some (flat L) ∧ True)
def New (ty : TypeId) (M M' : Mem) (v : Value) (L : List α) : Prop := ∃ b sp, v = .slice (some ⟨b, 0, sp⟩) L.length L.length ∧ M'.get b = some (.cells (flat L) ty true) ∧ M.size ≤ b
theorem New.sl {ty : TypeId} {M M' : Mem} {v : Value} {L : List α} (h : New ty M M' v L) : Sl M' v L := by
 obtain ⟨b, sp, rfl, h1, h2⟩ := h
 refine ⟨_, _, rfl, Nat.le_refl _, .inr ⟨b, 0, sp, rfl, ?_, trivial⟩⟩
 simp only [Mem.loadN, h1, flat_len, Nat.zero_add, Nat.le_refl, if_true, List.drop_zero]
 rw [List.take_of_length_le (by rw [flat_len]; exact Nat.le_refl _)]
theorem Sl.ext {M M' : Mem} (e : Ext M M') {v : Value} {L : List α} (h : Sl M v L) : Sl M' v L := by
 obtain ⟨a, cap, rfl, h1, h2⟩ := h
 refine ⟨a, cap, rfl, h1, h2.imp id ?_⟩
 rintro ⟨b, off, sp, rfl, h3, h4⟩
 exact ⟨b, off, sp, rfl, loadN_ext e h3, h4⟩
theorem Sl.thaw {M : Mem} {c : Nat} {v : Value} {L : List α} (h : Sl M v L) : Sl (M.thaw c) v L := h
theorem Sl.freeze {M : Mem} {v : Value} {L : List α} (h : Sl M v L) : Sl M.freeze v L := h
theorem At.ext {M M' : Mem} (e : Ext M M') {v : Value} {a : α} (h : At M v a) : At M' v a := by
 obtain ⟨b, off, rfl, h1⟩ := h
 exact ⟨b, off, rfl, loadN_ext e h1⟩
theorem New.ext {ty : TypeId} {M M' M'' : Mem} (e : Ext M' M'') {v : Value} {L : List α} (h : New ty M M' v L) : New ty M M'' v L := by
 obtain ⟨b, sp, rfl, h1, h2⟩ := h
 exact ⟨b, sp, rfl, e.same h1, h2⟩
theorem New.old {ty : TypeId} {M₀ M M' : Mem} (e : Ext M₀ M) {v : Value} {L : List α} (h : New ty M M' v L) : New ty M₀ M' v L := by
 obtain ⟨b, sp, rfl, h1, h2⟩ := h
 exact ⟨b, sp, rfl, h1, Nat.le_trans e.size h2⟩
theorem Sl.nil (M : Mem) : Sl M (.slice none 0 0) ([] : List α) := ⟨none, 0, rfl, Nat.le_refl _, .inl rfl⟩
theorem Sl.len {M : Mem} {v : Value} {L : List α} (h : Sl M v L) (N : Mem) : opSem (.len 1 (.const v)) [] N = some (.int .i64 L.length, N) := by
 obtain ⟨a, cap, rfl, _⟩ := h; rfl
theorem Sl.addr {M : Mem} {v : Value} {L : List α} (h : Sl M v L) {i : Int} {a : α} (h0 : 0 ≤ i) (hi : L[i.toNat]? = some a) {j : IntKind} (N : Mem) : ∃ p, opSem (.addrL E.k (.const v) (.const (.int j i))) [] N = some (p, N) ∧ At M p a := by
 obtain ⟨ad, cap, rfl, h1, h2⟩ := h
 have hlt := (List.getElem?_eq_some_iff.1 hi).1
 rcases h2 with h2 | ⟨b, off, sp, rfl, h3, h4⟩
 ·subst h2; simp at hlt
 ·refine ⟨.pointer (some ⟨b, off + i.toNat * E.k, none⟩), ?_, b, _, rfl, ?_⟩
  ·simp only [opSem, ev]
   rw [if_pos ⟨h0, by omega⟩]
  ·rw [loadN_sub h3 (f := i.toNat * E.k) (m := E.k), flat_at hi]
   have : (i.toNat + 1) * E.k ≤ L.length * E.k := Nat.mul_le_mul_right _ (by omega)
   rw [Nat.add_mul] at this; omega
theorem At.load {M : Mem} {p : Value} {a : α} (h : At M p a) : opSem (.load (some E.k) (.const p)) [] M = some (.agg (E.enc a).toArray, M) := by
 obtain ⟨b, off, rfl, h1⟩ := h
 simp only [opSem, ev, h1]; rfl
theorem At.load1 {M : Mem} {p : Value} {a : α} (h : At M p a) {v : Value} (hk : E.enc a = [v]) : opSem (.load none (.const p)) [] M = some (v, M) := by
 obtain ⟨b, off, rfl, h1⟩ := h
 have := loadN_1 h1 (f := 0) (v := v) (by rw [hk]; rfl)
 simp only [opSem, ev]
 rw [show M.load1 b off = some v from this]; rfl
theorem At.field {M : Mem} {p : Value} {a : α} (h : At M p a) (f : Nat) {v : Value} (hv : (E.enc a)[f]? = some v) (N : Mem) : ∃ q, opSem (.fieldAddr f (.const p)) [] N = some (q, N) ∧ opSem (.load none (.const q)) [] M = some (v, M) := by
 obtain ⟨b, off, rfl, h1⟩ := h
 refine ⟨.pointer (some ⟨b, off + f, none⟩), rfl, ?_⟩
 simp only [opSem, ev, loadN_1 h1 hv]; rfl
theorem At.fields {M : Mem} {p : Value} {a : α} (h : At M p a) (f n : Nat) {l : List Value} (hv : ((E.enc a).drop f).take n = l) (hn : f + n ≤ E.k) (N : Mem) : ∃ q, opSem (.fieldAddr f (.const p)) [] N = some (q, N) ∧ opSem (.load (some n) (.const q)) [] M = some (.agg l.toArray, M) := by
 obtain ⟨b, off, rfl, h1⟩ := h
 refine ⟨.pointer (some ⟨b, off + f, none⟩), rfl, ?_⟩
 simp only [opSem, ev, loadN_sub h1 hn, hv]; rfl
def blk : Value → Option Nat
 | .slice (some a) _ _ => some a.block
 | _ => none
def Mine (ty : TypeId) (M M' : Mem) (v : Value) (L : List α) : Prop := New ty M M' v L ∨ (L = [] ∧ v = .slice none 0 0)
theorem Mine.sl {ty : TypeId} {M M' : Mem} {v : Value} {L : List α} (h : Mine ty M M' v L) : Sl M' v L := by
 rcases h with h | ⟨rfl, rfl⟩
 ·exact h.sl
 ·exact Sl.nil _
theorem Mine.ext {ty : TypeId} {M M' M'' : Mem} (e : Ext M' M'') {v : Value} {L : List α} (h : Mine ty M M' v L) : Mine ty M M'' v L := h.imp (fun h => h.ext e) id
theorem Mine.old {ty : TypeId} {M₀ M M' : Mem} (e : Ext M₀ M) {v : Value} {L : List α} (h : Mine ty M M' v L) : Mine ty M₀ M' v L := h.imp (fun h => h.old e) id
theorem Sl.src {M : Mem} {v : Value} {L : List α} (h : Sl M v L) : lenV v = some L.length ∧ isStr v = false ∧ (L ≠ [] → srcOf M E.k v L.length = some (flat L)) := by
 obtain ⟨a, cap, rfl, h1, h2⟩ := h
 refine ⟨rfl, rfl, fun hne => ?_⟩
 rcases h2 with h2 | ⟨b, off, sp, rfl, h3, _⟩
 ·exact absurd h2 hne
 ·exact h3
structure Srcs (M : Mem) (v : Value) (L : List α) : Prop where
 len : lenV v = some L.length
 str : isStr v = false
 src : L ≠ [] → srcOf M E.k v L.length = some (flat L)
theorem Sl.srcs {M : Mem} {v : Value} {L : List α} (h : Sl M v L) : Srcs M v L := ⟨h.src.1, h.src.2.1, h.src.2.2⟩
theorem Sl.take {M : Mem} {v : Value} {L : List α} (h : Sl M v L) {i : Nat} (hi : i ≤ L.length) (h0 : L ≠ []) {j : IntKind} (N : Mem) :
  ∃ v', opSem (.sliceL E.k (.const v) none (some (.const (.int j i))) none) [] N = some (v', N) ∧ Sl M v' (L.take i) := by
 obtain ⟨ad, cap, rfl, h1, h2⟩ := h
 rcases h2 with h2 | ⟨b, off, sp, rfl, h3, _⟩
 ·exact absurd h2 h0
 ·have hl : 0 < L.length := List.length_pos_iff.2 h0
  refine ⟨.slice (some ⟨b, off, sp⟩) i cap, ?_, some ⟨b, off, sp⟩, cap, by rw [List.length_take, Nat.min_eq_left hi], by rw [List.length_take]; omega, .inr ⟨b, off, sp, rfl, ?_, trivial⟩⟩
  ·have hb : bounds L.length cap none (some (.int j i)) none = some (0, i, cap) := by
    simp only [bounds, optBound, boundV, Option.bind_some]
    rw [if_pos (by omega)]
    simp
   simp only [opSem, ev, Option.map_none, Option.map_some, hb, Option.bind_some, sliceV]
   rw [if_neg (by intro hc; omega), if_neg (by omega)]
   simp
  ·have := loadN_sub h3 (f := 0) (m := i * E.k) (by rw [Nat.zero_add]; exact Nat.mul_le_mul_right _ hi)
   rw [Nat.add_zero, List.drop_zero, flat_take] at this
   rw [List.length_take, Nat.min_eq_left hi]
   exact this
theorem Sl.rest {M : Mem} {v : Value} {L : List α} (h : Sl M v L) {i : Nat} (hi : i ≤ L.length) (h0 : L ≠ []) {j : IntKind} (N : Mem) :
  ∃ v', opSem (.sliceL E.k (.const v) (some (.const (.int j i))) none none) [] N = some (v', N) ∧ Srcs M v' (L.drop i) := by
 obtain ⟨ad, cap, rfl, h1, h2⟩ := h
 rcases h2 with h2 | ⟨b, off, sp, rfl, h3, _⟩
 ·exact absurd h2 h0
 ·have hl : 0 < L.length := List.length_pos_iff.2 h0
  have hb : bounds L.length cap (some (.int j i)) none none = some (i, L.length, cap) := by
   simp only [bounds, optBound, boundV, Option.bind_some]
   rw [if_pos (by omega)]
   simp
  simp only [opSem, ev, Option.map_none, Option.map_some, hb, Option.bind_some, sliceV]
  rw [if_neg (by intro hc; omega)]
  by_cases he : cap = i
  ·rw [if_pos he]
   have hz : L.drop i = [] := List.drop_of_length_le (by omega)
   by_cases hs : sp.isSome = true
   ·rw [if_pos (.inl hs)]
    exact ⟨_, rfl, by rw [hz]; rfl, rfl, fun h => absurd hz h⟩
   ·rw [if_neg (by simp [hs])]
    exact ⟨_, rfl, by rw [hz]; rfl, rfl, fun h => absurd hz h⟩
  ·rw [if_neg he]
   refine ⟨_, rfl, by rw [List.length_drop]; rfl, rfl, fun _ => ?_⟩
   have := loadN_sub h3 (f := i * E.k) (m := (L.length - i) * E.k) (by rw [← Nat.add_mul]; exact Nat.mul_le_mul_right _ (by omega))
   rw [flat_drop, List.take_of_length_le (by rw [flat_len, List.length_drop]; exact Nat.le_refl _)] at this
   rw [List.length_drop]
   exact this
def SlH (M : Mem) (v : Value) (L : List α) : Prop := Sl M v L ∨ (L = [] ∧ ∃ k, v = .chan (some k))
theorem SlH.ext {M M' : Mem} (e : Ext M M') {v : Value} {L : List α} (h : SlH M v L) : SlH M' v L := h.imp (fun h => h.ext e) id
theorem SlH.freeze {M : Mem} {v : Value} {L : List α} (h : SlH M v L) : SlH M.freeze v L := h
theorem SlH.at {M : Mem} {v : Value} {L : List α} (h : SlH M v L) {i : Nat} {a : α} (hi : L[i]? = some a) : Sl M v L := by
 rcases h with h | ⟨rfl, _⟩
 ·exact h
 ·simp at hi
theorem SlH.cells {M : Mem} {v : Value} {L : List α} (h : SlH M v L) : v.cells = #[v] ∧ notTup v = true ∧ v.oneCell' = true := by
 rcases h with ⟨a, cap, rfl, _⟩ | ⟨_, k, rfl⟩ <;> exact ⟨rfl, rfl, rfl⟩
theorem opSemQ_app {ty : TypeId} {bytes sz : Nat} {str : Bool} {a : Option Addr} {l : Nat} {x v : Value} {M M' : Mem} (h : opSem (.append ty bytes sz str (.const (.slice a l l)) (.const x)) [] M = some (v, M')) :
  opSemQ (.append ty bytes sz str (.const (.slice a l l)) (.const x)) M = some (v, M') := by
 unfold opSemQ
 split
 ·exact h
 ·rename_i hk
  change (if isStr x = str then appendV M ty bytes sz (.slice a l l) x else none) = some (v, M') at h
  show Option.map _ (if isStr x = str then appendV M.freeze ty bytes sz (.slice a l l) x else none) = some (v, M')
  by_cases hstr : isStr x = str
  rotate_left
  ·rw [if_neg hstr] at h; cases h
  rw [if_pos hstr] at h ⊢
  unfold appendV at h ⊢
  cases hn : lenV x with
  | none => rw [hn] at h; cases h
  | some n =>
   rw [hn] at h
   simp only at h ⊢
   by_cases h0 : n = 0
   ·rw [if_pos h0] at h ⊢
    cases h; rfl
   ·rw [if_neg h0] at h ⊢
    have hsr : srcOf M.freeze sz x n = srcOf M sz x n := rfl
    rw [hsr]
    cases hs : srcOf M sz x n with
    | none => rw [hs] at h; cases h
    | some new =>
     rw [hs] at h
     simp only at h ⊢
     by_cases hb : l + n ≤ 2 ^ 40 ∧ (l + n) * bytes ≤ 2 ^ 40
     rotate_left
     ·rw [if_neg hb] at h; cases h
     rw [if_pos hb] at h ⊢
     cases a with
     | none => cases h; rfl
     | some ad =>
      obtain ⟨b, off, sp⟩ := ad
      cases sp with
      | some k =>
       simp only at h ⊢
       rw [if_neg (by omega)] at h ⊢
       have hl : M.freeze.loadN b off (l * sz) = M.loadN b off (l * sz) := rfl
       rw [hl]
       cases hq : M.loadN b off (l * sz) with
       | none => rw [hq] at h; cases h
       | some old => rw [hq] at h; cases h; rfl
      | none =>
       exfalso
       obtain ⟨k, rfl⟩ : ∃ k, n = k + 1 := ⟨n - 1, by omega⟩
       simp [killOp, ev, guardOk, hn] at hk
theorem append_ok {ty : TypeId} {bytes : Nat} {M₀ M : Mem} (e : Ext M₀ M) (hb : M₀.base ≤ M₀.size) {s x : Value} {A B : List α} (hA : Mine ty M₀ M s A) (hB : Srcs M x B) (hn : A.length + B.length ≤ 2 ^ 40) (hby : (A.length + B.length) * bytes ≤ 2 ^ 40) :
  ∃ v M', opSem (.append ty bytes E.k false (.const s) (.const x)) [] M = some (v, M') ∧ Ext M₀ M' ∧ Mine ty M₀ M' v (A ++ B) ∧ M.size ≤ M'.size ∧ M'.base = M.base ∧ ∀ c, c < M.size → blk s ≠ some c → M'.get c = M.get c := by
 obtain ⟨l1, l2, l3⟩ := hB
 have hs : ∃ a, s = .slice a A.length A.length := by
  rcases hA with ⟨b, sp, rfl, _⟩ | ⟨rfl, rfl⟩
  ·exact ⟨_, rfl⟩
  ·exact ⟨_, rfl⟩
 have hop : opSem (.append ty bytes E.k false (.const s) (.const x)) [] M = appendV M ty bytes E.k s x := by simp only [opSem, ev, l2, if_true]
 rw [hop]
 by_cases h0 : B.length = 0
 ·have hB0 : B = [] := List.length_eq_zero_iff.1 h0
  obtain ⟨a, rfl⟩ := hs
  refine ⟨_, M, ?_, e, by rw [hB0, List.append_nil]; exact hA, Nat.le_refl _, rfl, fun _ _ _ => rfl⟩
  unfold appendV
  simp only [l1, h0, if_true]
 ·have hne : B ≠ [] := fun h => h0 (by rw [h]; rfl)
  have hsrc := l3 hne
  have eb := e.base
  have es := e.size
  rcases hA with ⟨b, sp, rfl, hg, hlt⟩ | ⟨rfl, rfl⟩
  ·have hbs := Mem.lt_of_get hg
   cases sp with
   | some q =>
    refine ⟨.slice (some ⟨M.size, 0, none⟩) (A.length + B.length) (A.length + B.length), M.push (.cells (flat A ++ flat B) ty true), ?_, e.trans (Ext.push _ _), .inl ⟨M.size, none, by simp, by rw [Mem.get_push, if_pos rfl]; simp, es⟩, by simp, rfl, fun c hc _ => by rw [Mem.get_push, if_neg (by omega)]⟩
    have hl : M.loadN b 0 (A.length * E.k) = some (flat A) := by
     simp only [Mem.loadN, hg, flat_len, Nat.zero_add, Nat.le_refl, if_true, List.drop_zero]
     rw [List.take_of_length_le (by rw [flat_len]; exact Nat.le_refl _)]
    unfold appendV
    simp only [l1, h0, if_false, hsrc, hn, hby, and_self, if_true]
    rw [if_neg (by omega), hl]; rfl
   | none =>
    refine ⟨.slice (some ⟨M.size, 0, none⟩) (A.length + B.length) (A.length + B.length), (M.set b .dead).push (.cells (flat A ++ flat B) ty true), ?_, ?_, .inl ⟨M.size, none, by simp, by rw [Mem.get_push]; simp, es⟩, by simp, rfl, fun c hc hcb => ?_⟩
    ·unfold appendV
     simp only [l1, h0, if_false, hsrc, hn, hby, and_self, if_true, hg]
     rw [if_pos ⟨trivial, trivial, flat_len _, by omega⟩]
    ·exact (e.set hlt hbs _).trans (Ext.push _ _)
    ·rw [Mem.get_push, Mem.set_size, if_neg (by omega), Mem.get_set _ _ _ hbs, if_neg]
     rintro rfl
     exact hcb rfl
  ·refine ⟨.slice (some ⟨M.size, 0, none⟩) B.length B.length, M.push (.cells (flat B) ty true), ?_, e.trans (Ext.push _ _), .inl ⟨M.size, none, by simp, by rw [Mem.get_push, if_pos rfl]; simp, es⟩, by simp, rfl, fun c hc _ => by rw [Mem.get_push, if_neg (by omega)]⟩
   simp only [List.length_nil, Nat.zero_add] at hn hby
   unfold appendV
   simp only [l1, h0, if_false, hsrc, Nat.zero_add, hn, hby, and_self, if_true]
theorem rep_len (n : Nat) (z : List Value) : (rep n z).length = n * z.length := by
 unfold rep
 rw [List.length_flatten, List.map_replicate, List.sum_replicate_nat]
theorem own_ok {ty : TypeId} {bytes : Nat} {z : List Value} (hz : z.length = E.k) {M : Mem} (hb : M.base ≤ M.size) {s : Value} {L : List α} (hS : Sl M s L) (hn : L.length ≤ 2 ^ 40) (hby : L.length * bytes ≤ 2 ^ 40) :
  ∃ v M2, opSem (.mkSlice ty bytes z (.const (.int .i64 L.length)) (.const (.int .i64 L.length))) [] M = some (v, M2) ∧ ∃ u M3, opSem (.copy E.k (.const v) (.const s)) [] M2 = some (u, M3) ∧ Ext M M3 ∧ New ty M M3 v L := by
 obtain ⟨l1, l2, l3⟩ := (hS.ext (Ext.push M (.cells (rep L.length z) ty true))).src
 refine ⟨.slice (some ⟨M.size, 0, some 0⟩) L.length L.length, M.push (.cells (rep L.length z) ty true), ?_, ?_⟩
 ·simp only [opSem, ev]
  rw [if_pos ⟨by omega, Int.le_refl _, by omega, by exact_mod_cast hby⟩, Int.toNat_natCast]
 ·have hg : (M.push (.cells (rep L.length z) ty true)).get M.size = some (.cells (rep L.length z) ty true) := by rw [Mem.get_push]; exact if_pos rfl
  by_cases h0 : L.length = 0
  ·have hL0 : L = [] := List.length_eq_zero_iff.1 h0
   subst hL0
   refine ⟨.int .i64 0, M.push (.cells (rep 0 z) ty true), ?_, Ext.push _ _, M.size, some 0, rfl, ?_, Nat.le_refl _⟩
   ·simp only [opSem, ev, copyV, l1]; rfl
   ·exact hg
  ·have hne : L ≠ [] := fun h => h0 (by rw [h]; rfl)
   have hsrc := l3 hne
   refine ⟨.int .i64 L.length, (M.push (.cells (rep L.length z) ty true)).set M.size (.cells (flat L) ty true), ?_, (Ext.push M _).set (Nat.le_refl _) (by simp) _, M.size, some 0, rfl, by rw [Mem.get_set _ _ _ (by simp), if_pos rfl], Nat.le_refl _⟩
   simp only [opSem, ev, copyV, l1, Nat.min_self, if_neg h0, hsrc]
   have hst : (M.push (.cells (rep L.length z) ty true)).storeN M.size 0 (flat L) = some ((M.push (.cells (rep L.length z) ty true)).set M.size (.cells (flat L) ty true)) := by
    simp only [Mem.storeN, hg]
    rw [if_pos ⟨by simpa using hb, by rw [flat_len, rep_len, hz]; omega⟩]
    unfold splice
    rw [List.take_zero, List.nil_append, Nat.zero_add, List.drop_of_length_le (by rw [flat_len, rep_len, hz]; exact Nat.le_refl _), List.append_nil]
   rw [hst]; rfl
omit E in
theorem splice_mid (A e B vs : List Value) {f : Nat} (hf : f + vs.length ≤ e.length) : splice (A ++ (e ++ B)) (A.length + f) vs = A ++ (splice e f vs ++ B) := by
 unfold splice
 rw [List.take_append, List.take_of_length_le (by omega), Nat.add_sub_cancel_left, List.take_append, List.drop_append, List.drop_of_length_le (by omega), List.drop_append]
 have h1 : f - e.length = 0 := by omega
 have h2 : A.length + f + vs.length - A.length = f + vs.length := by omega
 have h3 : f + vs.length - e.length = 0 := by omega
 rw [h1, h2, h3]
 simp
theorem flat_put {L : List α} {i : Nat} {a a' : α} (h : L[i]? = some a) {f : Nat} {vs : List Value} (hf : f + vs.length ≤ E.k) (hx : splice (E.enc a) f vs = E.enc a') : splice (flat L) (i * E.k + f) vs = flat (L.set i a') := by
 obtain ⟨hi, rfl⟩ := List.getElem?_eq_some_iff.1 h
 have h1 : flat L = flat (L.take i) ++ (E.enc L[i] ++ flat (L.drop (i + 1))) := by
  conv => lhs; rw [← List.take_append_drop i L, List.drop_eq_getElem_cons hi]
  rw [flat_append, flat_cons]
 have h2 : i * E.k = (flat (L.take i)).length := by rw [flat_len, List.length_take, Nat.min_eq_left (by omega)]
 rw [h1, h2, splice_mid _ _ _ _ (by rw [E.len]; exact hf), hx, List.set_eq_take_append_cons_drop, if_pos hi, flat_append, flat_cons]
theorem New.store {ty : TypeId} {M₀ M : Mem} (e : Ext M₀ M) (hb : M₀.base ≤ M₀.size) {v : Value} {L : List α} (h : New ty M₀ M v L) {i : Nat} {a a' : α} (hi : L[i]? = some a) {f : Nat} {vs : List Value} (hf : f + vs.length ≤ E.k) {x : Value} (hx : splice (E.enc a) f vs = E.enc a') (hx1 : x.cells.toList = vs) (hx2 : notTup x = true) {j : IntKind} :
  ∃ b, opSem (.addrL E.k (.const v) (.const (.int j (i : Int)))) [] M = some (.pointer (some ⟨b, 0 + i * E.k, none⟩), M) ∧ ∃ u M', opSem (.store vs.length (.const (.pointer (some ⟨b, 0 + i * E.k + f, none⟩))) (.const x)) [] M = some (u, M') ∧ Ext M₀ M' ∧ New ty M₀ M' v (L.set i a') := by
 obtain ⟨b, sp, rfl, h1, h2⟩ := h
 have hlt := (List.getElem?_eq_some_iff.1 hi).1
 have hbs := Mem.lt_of_get h1
 have eb := e.base
 refine ⟨b, ?_, undef, M.set b (.cells (flat (L.set i a')) ty true), ?_, e.set h2 hbs _, b, sp, by rw [List.length_set], by rw [Mem.get_set _ _ _ hbs, if_pos rfl], h2⟩
 ·simp only [opSem, ev]
  rw [if_pos ⟨by omega, by omega⟩, Int.toNat_natCast]
 ·have hsz : x.cells.size = vs.length := by have := congrArg List.length hx1; simpa using this
  have : M.storeQ b (0 + i * E.k + f) vs = some (M.set b (.cells (flat (L.set i a')) ty true)) := by
   have hb2 : 0 + i * E.k + f + vs.length ≤ (flat L).length := by
    rw [flat_len]
    have : (i + 1) * E.k ≤ L.length * E.k := Nat.mul_le_mul_right _ (by omega)
    rw [Nat.add_mul] at this
    omega
   simp only [Mem.storeQ, Mem.storeN, h1]
   rw [if_pos ⟨by omega, hb2⟩, Nat.zero_add, flat_put hi hf hx]
  simp only [opSem, ev, hsz, hx2, hx1, and_self, if_true, this, Option.map_some]
theorem New.put {ty : TypeId} {M₀ M : Mem} (e : Ext M₀ M) (hb : M₀.base ≤ M₀.size) {v : Value} {L : List α} (h : New ty M₀ M v L) {i : Nat} {a a' : α} (hi : L[i]? = some a) {f : Nat} (hf : f < E.k) {x : Value} (hx : splice (E.enc a) f [x] = E.enc a') (hx1 : x.cells.toList = [x]) (hx2 : notTup x = true) {j : IntKind} :
  ∃ p, opSem (.addrL E.k (.const v) (.const (.int j (i : Int)))) [] M = some (p, M) ∧ ∃ q, opSem (.fieldAddr f (.const p)) [] M = some (q, M) ∧ ∃ u M', opSem (.store 1 (.const q) (.const x)) [] M = some (u, M') ∧ Ext M₀ M' ∧ New ty M₀ M' v (L.set i a') := by
 obtain ⟨b, h1, u, M', h2, h3⟩ := h.store e hb hi (f := f) (vs := [x]) (by exact hf) hx hx1 hx2 (j := j)
 exact ⟨_, h1, _, rfl, u, M', h2, h3⟩
end
end Go.Proofs.Ytifemfnjoobiiaa.Run
