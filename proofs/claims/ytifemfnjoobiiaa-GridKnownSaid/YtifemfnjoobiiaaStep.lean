/- Steps of the calculus, each told with what comes behind it: reads and writes of rows, parts of rows, rows written out. No statement of the program's is proved here. -/
import Derived.Test.YtifemfnjoobiiaaSpec
namespace Go.Proofs.Ytifemfnjoobiiaa.Run
open Go Go.RowKit
set_option linter.unusedVariables false
set_option linter.unusedSimpArgs false
structure In where
 n : Int
instance : Enc In := ⟨1, fun a => [.int .i64 a.n], fun _ => rfl, by decide⟩
structure Vl where
 v : Value
instance : Enc Vl := ⟨1, fun a => [a.v], fun _ => rfl, by decide⟩
theorem keepE {M₀ M M' : Mem} {b : Nat} (hb : b < M₀.size) (e : Ext M₀ M) (e' : Ext M₀ M') : KeepB [b] M M' := by
 intro c hc _
 rw [List.mem_singleton] at hc
 subst hc
 rw [e.get _ hb, e'.get _ hb]
theorem Ext.both {M₀ M : Mem} (h : Ext M₀ M) {b : Nat} (hb : b < M₀.size) (o : AObj) : Ext (M₀.set b o) (M.set b o) := by
 have hs := h.size
 refine ⟨h.base, hs, fun c hc => ?_⟩
 have hc : c < M₀.size := hc
 rw [Mem.get_set _ _ _ (by omega), Mem.get_set _ _ _ hb, h.get c hc]
theorem New.both {α : Type} [Enc α] {ty : TypeId} {M₀ M : Mem} {v : Value} {L : List α} (h : New ty M₀ M v L) {b : Nat} (hb : b < M₀.size) (o : AObj) : New ty (M₀.set b o) (M.set b o) v L := by
 obtain ⟨b', sp, rfl, g, hlt⟩ := h
 refine ⟨b', sp, rfl, ?_, hlt⟩
 have := Mem.lt_of_get g
 rw [Mem.get_set _ _ _ (by omega), if_neg (by omega)]; exact g
theorem Mine.both {α : Type} [Enc α] {ty : TypeId} {M₀ M : Mem} {v : Value} {L : List α} (h : Mine ty M₀ M v L) {b : Nat} (hb : b < M₀.size) (o : AObj) : Mine ty (M₀.set b o) (M.set b o) v L := h.imp (fun h => h.both hb o) id
theorem cutK.n {n : Nat} {Q : XE → LS → Prop} {x : XE} {s s' : LS} (e : s.cut n = s' := by rfl) (h : Q x s') : cutK n Q x s := by subst e; exact h
theorem blockK.n {i : Nat} {Q : XE → LS → Prop} {s : LS} (h : Q .normal s) : blockK i Q .normal s := h
theorem seqK.n {k : LS → Prop} {Q : XE → LS → Prop} {s : LS} (h : k s) : seqK k Q .normal s := h
section
variable {α : Type} [E : Enc α] {P : Value → Prop} {PM : Value → Mem → Prop}
theorem Sl.shape {M : Mem} {v : Value} {L : List α} (h : Sl M v L) : ∃ a cap, v = .slice a L.length cap := by
 obtain ⟨a, cap, rfl, _⟩ := h; exact ⟨a, cap, rfl⟩
theorem New.shape {ty : TypeId} {M₀ M : Mem} {v : Value} {L : List α} (h : New ty M₀ M v L) : ∃ b sp, v = .slice (some ⟨b, 0, sp⟩) L.length L.length := by
 obtain ⟨b, sp, rfl, _⟩ := h; exact ⟨b, sp, rfl⟩
theorem rd1 {M : Mem} {v : Value} {L : List α} (h : Sl M v L) {i : Int} {a : α} (h0 : 0 ≤ i) (hi : L[i.toNat]? = some a) {x : Value} (hk : E.enc a = [x]) {j : IntKind} {P : Value → Value → Prop} (q : ∀ p, P p x) : ∃ p, opSem (.addrL E.k (.const v) (.const (.int j i))) [] M = some (p, M) ∧ ∃ y, opSem (.load none (.const p)) [] M = some (y, M) ∧ P p y := by
 obtain ⟨p, h1, h2⟩ := h.addr h0 hi (j := j) M
 exact ⟨p, h1, _, h2.load1 hk, q p⟩
theorem rd_f {M : Mem} {v : Value} {L : List α} (h : Sl M v L) {i : Int} {a : α} (h0 : 0 ≤ i) (hi : L[i.toNat]? = some a) {f : Nat} {x : Value} (hv : (E.enc a)[f]? = some x) {j : IntKind} {P : Value → Value → Value → Prop} (q : ∀ p p', P p p' x) : ∃ p, opSem (.addrL E.k (.const v) (.const (.int j i))) [] M = some (p, M) ∧ ∃ p', opSem (.fieldAddr f (.const p)) [] M = some (p', M) ∧ ∃ y, opSem (.load none (.const p')) [] M = some (y, M) ∧ P p p' y := by
 obtain ⟨p, h1, h2⟩ := h.addr h0 hi (j := j) M
 obtain ⟨p', h3, h4⟩ := h2.field f hv M
 exact ⟨p, h1, p', h3, _, h4, q p p'⟩
theorem step_lenS {M N : Mem} {v : Value} {L : List α} (h : Sl M v L) (p : P (.int .i64 L.length)) : ∃ x, opSem (.len 1 (.const v)) [] N = some (x, N) ∧ P x := ⟨_, h.len N, p⟩
theorem Srcs.shape {M : Mem} {v : Value} {L : List α} (h : Srcs M v L) : (∃ a cap, v = .slice a L.length cap) ∨ (∃ n, v = .chan (some n) ∧ L = []) := by
 obtain ⟨h1, h2, _⟩ := h
 unfold lenV at h1
 split at h1
 ·cases h1; exact .inl ⟨_, _, rfl⟩
 ·cases h2
 ·exact .inr ⟨_, rfl, List.length_eq_zero_iff.1 (Option.some.inj h1).symm⟩
 ·cases h1
theorem Srcs.cells {M : Mem} {v : Value} {L : List α} (h : Srcs M v L) : v.cells = #[v] ∧ notTup v = true := by
 rcases h.shape with ⟨a, cap, rfl⟩ | ⟨n, rfl, _⟩ <;> exact ⟨rfl, rfl⟩
theorem Srcs.ext {M M' : Mem} (e : Ext M M') {v : Value} {L : List α} (h : Srcs M v L) : Srcs M' v L := by
 refine ⟨h.len, h.str, fun hne => ?_⟩
 have h1 := h.src hne
 rcases h.shape with ⟨a, cap, rfl⟩ | ⟨n, rfl, h0⟩
 ·cases a with
  | none => exact h1
  | some a => exact loadN_ext e h1
 ·exact absurd h0 hne
theorem sliceV_src {M : Mem} {a : Option Addr} {L : List α} {cap l h : Nat} (hS : Sl M (.slice a L.length cap) L) (hl : l ≤ h) (hh : h ≤ L.length) : ∃ v', sliceV E.k L.length l h cap false a = some v' ∧ Srcs M v' ((L.take h).drop l) := by
 obtain ⟨a', cap', he, h1, h2⟩ := hS
 cases he
 cases a with
 | none =>
  rcases h2 with rfl | ⟨b, off, sp, h3, _⟩
  ·exact ⟨_, rfl, by simp [lenV], rfl, fun h => absurd (by simp) h⟩
  ·cases h3
 | some ad =>
  obtain ⟨b, off, sp⟩ := ad
  simp only [sliceV]
  rw [if_neg (by intro hc; omega)]
  by_cases he : cap = l
  ·rw [if_pos he]
   have hz : (L.take h).drop l = [] := List.drop_of_length_le (by rw [List.length_take]; omega)
   rw [hz]
   by_cases hs : sp.isSome = true
   ·rw [if_pos (.inl hs)]; exact ⟨_, rfl, rfl, rfl, fun h => absurd rfl h⟩
   ·rw [if_neg (by simp [hs])]; exact ⟨_, rfl, rfl, rfl, fun h => absurd rfl h⟩
  ·rw [if_neg he]
   refine ⟨_, rfl, by rw [List.length_drop, List.length_take, Nat.min_eq_left hh]; rfl, rfl, fun hne => ?_⟩
   rcases h2 with rfl | ⟨b', off', sp', h3, h4, _⟩
   ·exact absurd (by simp) hne
   ·cases h3
    have h5 := loadN_sub h4 (f := l * E.k) (m := (h - l) * E.k) (by rw [← Nat.add_mul]; exact Nat.mul_le_mul_right _ (by omega))
    rw [flat_drop, flat_take] at h5
    rw [List.length_drop, List.length_take, Nat.min_eq_left hh, List.drop_take]
    exact h5
theorem step_to {M N : Mem} {v : Value} {L : List α} (hS : Sl M v L) {h : Int} (h0 : 0 ≤ h) (hh : h ≤ L.length) {j : IntKind} (q : ∀ v', Srcs M v' (L.take h.toNat) → P v') : ∃ x, opSem (.sliceL E.k (.const v) none (some (.const (.int j h))) none) [] N = some (x, N) ∧ P x := by
 obtain ⟨a, cap, rfl⟩ := hS.shape
 have hc : L.length ≤ cap := by obtain ⟨_, _, he, h1, _⟩ := hS; cases he; exact h1
 obtain ⟨v', h1, h2⟩ := sliceV_src hS (l := 0) (h := h.toNat) (Nat.zero_le _) (by omega)
 refine ⟨v', ?_, q v' (by simpa using h2)⟩
 have hb : bounds L.length cap none (some (.int j h)) none = some (0, h.toNat, cap) := by
  simp only [bounds, optBound, boundV, Option.bind_some]
  rw [if_pos ⟨h0, by omega⟩]
  simp
 simp only [opSem, ev, Option.map_none, Option.map_some, hb, Option.bind_some, Option.isSome_none, h1]
theorem step_lit {ty : TypeId} {z : List Value} {ps : List (Nat × Nat × Operand)} {n : Nat} (A : List α) {M : Mem} (h : fillL z (ps.map fun p => (p.1, p.2.1, ev [] p.2.2)) = some (flat A)) (hn : n = A.length) (q : ∀ v M', Ext M M' → New ty M M' v A → PM v M') : ∃ v M', opSem (.lit ty n z ps) [] M = some (v, M') ∧ PM v M' := by
 subst hn
 refine ⟨.slice (some ⟨M.size, 0, some 0⟩) A.length A.length, M.push (.cells (flat A) ty true), ?_, q _ _ (Ext.push _ _) ⟨M.size, some 0, rfl, by rw [Mem.get_push, if_pos rfl], Nat.le_refl _⟩⟩
 simp only [opSem, h, Option.map_some]
theorem step_app {ty : TypeId} {bytes : Nat} {M₀ M : Mem} (e : Ext M₀ M) (hb : M₀.base ≤ M₀.size) {s x : Value} {A B : List α} (hA : New ty M₀ M s A) (hB : Srcs M x B) (hn : A.length + B.length ≤ 2 ^ 40) (hby : (A.length + B.length) * bytes ≤ 2 ^ 40)
  (q : ∀ v M', Ext M₀ M' → New ty M₀ M' v (A ++ B) → (∀ c, c < M.size → blk s ≠ some c → M'.get c = M.get c) → PM v M') : ∃ v M', opSem (.append ty bytes E.k false (.const s) (.const x)) [] M = some (v, M') ∧ PM v M' := by
 by_cases h0 : B = []
 ·subst h0
  obtain ⟨a, rfl⟩ : ∃ a, s = .slice a A.length A.length := by obtain ⟨b, sp, rfl, _⟩ := hA; exact ⟨_, rfl⟩
  refine ⟨_, M, ?_, q _ M e (by rw [List.append_nil]; exact hA) fun _ _ _ => rfl⟩
  simp only [opSem, ev, hB.str, if_true, appendV, hB.len, List.length_nil]
 ·obtain ⟨v, M', h1, h2, h3, _, _, h6⟩ := append_ok (bytes := bytes) e hb (.inl hA) hB hn hby
  refine ⟨v, M', h1, q v M' h2 ?_ h6⟩
  rcases h3 with h3 | ⟨h3, _⟩
  ·exact h3
  ·exact absurd (List.append_eq_nil_iff.1 h3).2 h0
theorem step_appM {ty : TypeId} {bytes : Nat} {M₀ M : Mem} (e : Ext M₀ M) (hb : M₀.base ≤ M₀.size) {s x : Value} {A B : List α} (hA : Mine ty M₀ M s A) (hB : Srcs M x B) (hn : A.length + B.length ≤ 2 ^ 40) (hby : (A.length + B.length) * bytes ≤ 2 ^ 40)
  (q : ∀ v M', Ext M₀ M' → Mine ty M₀ M' v (A ++ B) → (∀ c, c < M.size → blk s ≠ some c → M'.get c = M.get c) → PM v M') : ∃ v M', opSem (.append ty bytes E.k false (.const s) (.const x)) [] M = some (v, M') ∧ PM v M' := by
 obtain ⟨v, M', h1, h2, h3, _, _, h6⟩ := append_ok (bytes := bytes) e hb hA hB hn hby
 exact ⟨v, M', h1, q v M' h2 h3 h6⟩
theorem wr {ty : TypeId} {M₀ M : Mem} (e : Ext M₀ M) (hb : M₀.base ≤ M₀.size) {v : Value} {L : List α} (h : New ty M₀ M v L) {i : Nat} {a : α} (a' : α) (hi : L[i]? = some a) {j : IntKind} {k : Nat} (hk : k = E.k)
  (q : ∀ u M', Ext M₀ M' → New ty M₀ M' v (L.set i a') → PM u M') :
  ∃ p, opSem (.addrL E.k (.const v) (.const (.int j (i : Int)))) [] M = some (p, M) ∧ ∃ u M', opSem (.store k (.const p) (.const (.agg (E.enc a').toArray))) [] M = some (u, M') ∧ PM u M' := by
 subst hk
 obtain ⟨b, h1, u, M', h2, h3, h4⟩ := h.store e hb hi (f := 0) (vs := E.enc a') (a' := a') (x := .agg (E.enc a').toArray) (by rw [E.len]; omega) (by unfold splice; rw [List.take_zero, List.nil_append, Nat.zero_add, List.drop_of_length_le (by rw [E.len, E.len]; exact Nat.le_refl _), List.append_nil]) (by simp [Value.cells]) rfl (j := j)
 rw [E.len] at h2
 exact ⟨_, h1, u, M', h2, q u M' h3 h4⟩
theorem s_eqT {j : IntKind} {x y : Int} (h : x = y) (p : P (.bool true)) : ∃ v, binV .eql 0 [] (.int j x) (.int j y) = some v ∧ P v := step_eql (by rw [decide_eq_true h]; exact p)
end
end Go.Proofs.Ytifemfnjoobiiaa.Run
