/- Grids behind a pointer: what lies in memory, how a row is read and set, copies of rows, and rows of rows put together. -/
import Derived.Test.YtifemfnjoobiiaaGrid
import Derived.Test.YtifemfnjoobiiaaRange
import Derived.Test.YtifemfnjoobiiaaVcH
namespace Go.Proofs.Ytifemfnjoobiiaa.Run
open Go Go.RowKit
set_option linter.unusedVariables false
set_option linter.unusedSimpArgs false
abbrev Chg (b rb : Nat) (M M' : Mem) : Prop := Touch (fun c => c = b ∨ c = rb) M M'
theorem Chg.ext {M₀ M M' : Mem} {b rb : Nat} (e : Ext M₀ M) (h : Chg b rb M M') (hb : M₀.size ≤ b) (hr : M₀.size ≤ rb) : Ext M₀ M' :=
 ⟨h.base.trans e.base, Nat.le_trans e.size h.size, fun c hc => (h.get c (by have := e.size; omega) (by omega)).trans (e.get c hc)⟩
theorem Chg.keep {M M' : Mem} {b rb : Nat} {bs : List Nat} (h : Chg b rb M M') (hb : ∀ c ∈ bs, c ≠ b ∧ c ≠ rb) : KeepB bs M M' := fun c hc hs => h.get c hs (by have := hb c hc; omega)
theorem Touch.imp {p q : Nat → Prop} {M M' : Mem} (h : Touch p M M') (hpq : ∀ c, c < M.size → p c → q c) : Touch q M M' := ⟨h.base, h.size, fun c hc hq => h.get c hc fun hp => hq (hpq c hc hp)⟩
theorem Touch.then {p q : Nat → Prop} {A B C : Mem} (h : Touch p A B) (k : Touch q B C) (hq : ∀ c, c < A.size → q c → p c) : Touch p A C :=
 ⟨k.base.trans h.base, Nat.le_trans h.size k.size, fun c hc hp => (k.get c (Nat.lt_of_lt_of_le hc h.size) fun x => hp (hq c hc x)).trans (h.get c hc hp)⟩
theorem New.touch {α : Type} [Enc α] {ty : TypeId} {M₀ M M' : Mem} {v : Value} {L : List α} {p : Nat → Prop} (h : New ty M₀ M v L) (k : Touch p M M') (hp : ∀ c, p c → ∀ x w, M.get c ≠ some (.cells x ty w)) : New ty M₀ M' v L := by
 obtain ⟨b, sp, rfl, g, hlt⟩ := h
 exact ⟨b, sp, rfl, (k.get b (Mem.lt_of_get g) fun hb => hp b hb _ _ g).trans g, hlt⟩
section
variable {M : Mem} {b : Nat} {c : List Value} {ty : TypeId} {w : Bool} {P : Value → Prop} {PM : Value → Mem → Prop}
theorem pt_ld {o : Nat} {x : Value} (h : M.get b = some (.cells c ty w)) (hx : c[o]? = some x) (p : P x) : ∃ v, opSem (.load none (.const (.pointer (some ⟨b, o, none⟩)))) [] M = some (v, M) ∧ P v := by
 refine ⟨x, ?_, p⟩
 simp only [opSem, ev, Mem.load1, h, hx, Option.map_some]
theorem pt_st {o : Nat} {x : Value} (h : M.get b = some (.cells c ty true)) (hb : M.base ≤ b) (ho : o < c.length) (h1 : x.cells.toList = [x]) (h2 : notTup x = true) (q : ∀ u M', M' = M.set b (.cells (c.set o x) ty true) → PM u M') : ∃ u M', opSem (.store 1 (.const (.pointer (some ⟨b, o, none⟩))) (.const x)) [] M = some (u, M') ∧ PM u M' := by
 have hsz : x.cells.size = 1 := by have := congrArg List.length h1; simpa using this
 refine ⟨undef, M.set b (.cells (c.set o x) ty true), ?_, q _ _ rfl⟩
 have hsp : splice c o [x] = c.set o x := by
  unfold splice
  rw [List.set_eq_take_append_cons_drop, if_pos ho]; simp
 have : M.storeQ b o [x] = some (M.set b (.cells (c.set o x) ty true)) := by
  simp only [Mem.storeQ, Mem.storeN, h]
  rw [if_pos ⟨hb, by simp; omega⟩, hsp]
 simp only [opSem, ev, hsz, h2, h1, and_self, if_true, this, Option.map_some]
end
structure Gq (M₀ M : Mem) (b rb C : Nat) (P : Parts) (sp : Option Nat) (cap : Nat) (rest : List Value) : Prop where
 hb : M₀.size ≤ b
 hr : M₀.size ≤ rb
 gb : M.get b = some (.cells [.slice (some ⟨rb, 0, sp⟩) P.length cap, .int .i64 C] 95 true)
 gr : M.get rb = some (.cells (flat P.row ++ rest) 26 true)
 cap : P.length ≤ cap
 rows : ∀ p ∈ P, New 42 M₀ M p.1 p.2
 cols : ∀ p ∈ P, p.2.length = C
 c1 : 1 ≤ C
 c2 : C ≤ 512
 n1 : 1 ≤ P.length
 n2 : P.length ≤ 512
def Gp (M₀ M : Mem) (b rb C : Nat) (G : Gd) : Prop := ∃ P sp cap rest, Gq M₀ M b rb C P sp cap rest ∧ P.map (·.2) = G
section
variable {M₀ M M' : Mem} {b rb C : Nat} {P : Parts} {sp : Option Nat} {cap : Nat} {rest : List Value} {G : Gd}
theorem Gq.ne (h : Gq M₀ M b rb C P sp cap rest) : b ≠ rb := fun e => by
 have h1 := h.gb; rw [e, h.gr] at h1
 exact absurd (AObj.cells.inj (Option.some.inj h1)).2.1 (by decide)
theorem Gq.ext (e : Ext M M') (h : Gq M₀ M b rb C P sp cap rest) : Gq M₀ M' b rb C P sp cap rest :=
 { h with gb := e.same h.gb, gr := e.same h.gr, rows := fun p hp => (h.rows p hp).ext e }
theorem Gp.ext (e : Ext M M') (h : Gp M₀ M b rb C G) : Gp M₀ M' b rb C G := by
 obtain ⟨P, sp, cap, rest, h1, h2⟩ := h
 exact ⟨P, sp, cap, rest, h1.ext e, h2⟩
theorem Gq.touch {p : Nat → Prop} (k : Touch p M M') (hb : ¬ p b) (hr : ¬ p rb) (hc : ∀ c, p c → ∀ x w, M.get c ≠ some (.cells x 42 w)) (h : Gq M₀ M b rb C P sp cap rest) : Gq M₀ M' b rb C P sp cap rest :=
 { h with gb := (k.get b (Mem.lt_of_get h.gb) hb).trans h.gb, gr := (k.get rb (Mem.lt_of_get h.gr) hr).trans h.gr, rows := fun p hp => (h.rows p hp).touch k hc }
theorem Gp.touch {N : Mem} {p : Nat → Prop} (h : Gp M₀ M b rb C G) (t : Touch p M N) (hb : ¬ p b) (hr : ¬ p rb) (hc : ∀ c, p c → ∀ x w, M.get c ≠ some (.cells x 42 w)) : Gp M₀ N b rb C G := by
 obtain ⟨P, sp, cap, rest, h1, h2⟩ := h
 exact ⟨P, sp, cap, rest, h1.touch t hb hr hc, h2⟩
theorem Gq.kinds (h : Gq M₀ M b rb C P sp cap rest) : ∀ c, (c = b ∨ c = rb) → ∀ x w, M.get c ≠ some (.cells x 42 w) := by
 rintro c (rfl | rfl) x w hc
 ·rw [h.gb] at hc; exact absurd (AObj.cells.inj (Option.some.inj hc)).2.1 (by decide)
 ·rw [h.gr] at hc; exact absurd (AObj.cells.inj (Option.some.inj hc)).2.1 (by decide)
theorem Gp.kinds (h : Gp M₀ M b rb C G) : ∀ c, (c = b ∨ c = rb) → ∀ x w, M.get c ≠ some (.cells x 42 w) := by
 obtain ⟨P, sp, cap, rest, h1, _⟩ := h; exact h1.kinds
theorem Gp.facts (h : Gp M₀ M b rb C G) : (∀ L ∈ G, L.length = C) ∧ 1 ≤ C ∧ C ≤ 512 ∧ 1 ≤ G.length ∧ G.length ≤ 512 ∧ M₀.size ≤ b ∧ M₀.size ≤ rb ∧ b < M.size ∧ rb < M.size ∧ b ≠ rb := by
 obtain ⟨P, sp, cap, rest, h1, rfl⟩ := h
 refine ⟨fun L hL => ?_, h1.c1, h1.c2, by simpa using h1.n1, by simpa using h1.n2, h1.hb, h1.hr, Mem.lt_of_get h1.gb, Mem.lt_of_get h1.gr, h1.ne⟩
 obtain ⟨p, hp, rfl⟩ := List.mem_map.1 hL
 exact h1.cols p hp
theorem Gp.old {M₁ : Mem} (e : Ext M₁ M₀) (h : Gp M₀ M b rb C G) : Gp M₁ M b rb C G := by
 obtain ⟨P, sp, cap, rest, h1, h2⟩ := h
 have := e.size
 exact ⟨P, sp, cap, rest, { h1 with hb := by have := h1.hb; omega, hr := by have := h1.hr; omega, rows := fun p hp => (h1.rows p hp).old e }, h2⟩
theorem g_rows {rv cv : Value} {ty : TypeId} {w : Bool} {Pr : Value → Value → Value → Prop} (g : M.get b = some (.cells [rv, cv] ty w)) (q : ∀ v1 v2, Pr v1 v2 rv) :
  ∃ v1, opSem (.nilCheck (.const (.pointer (some ⟨b, 0, none⟩)))) [] M = some (v1, M) ∧ ∃ v2, opSem (.fieldAddr 0 (.const v1)) [] M = some (v2, M) ∧ ∃ v3, opSem (.load none (.const v2)) [] M = some (v3, M) ∧ Pr v1 v2 v3 :=
 ⟨_, rfl, _, rfl, pt_ld g rfl (q _ _)⟩
theorem g_cols {rv cv : Value} {ty : TypeId} {w : Bool} {Pr : Value → Value → Value → Prop} (g : M.get b = some (.cells [rv, cv] ty w)) (q : ∀ v1 v2, Pr v1 v2 cv) :
  ∃ v1, opSem (.nilCheck (.const (.pointer (some ⟨b, 0, none⟩)))) [] M = some (v1, M) ∧ ∃ v2, opSem (.fieldAddr 1 (.const v1)) [] M = some (v2, M) ∧ ∃ v3, opSem (.load none (.const v2)) [] M = some (v3, M) ∧ Pr v1 v2 v3 :=
 ⟨_, rfl, _, rfl, pt_ld g rfl (q _ _)⟩
theorem Gq.slN (h : Gq M₀ M b rb C P sp cap rest) : Sl M (.slice (some ⟨rb, 0, sp⟩) P.length cap) P.row := by
 have hl : P.row.length = P.length := by simp
 refine ⟨_, cap, by rw [hl], by rw [hl]; exact h.cap, .inr ⟨rb, 0, sp, rfl, ?_, trivial⟩⟩
 simp only [Mem.loadN, h.gr]
 have hf : (flat P.row).length = P.row.length * 1 := flat_len P.row
 rw [if_pos (by rw [List.length_append, hf]; show 0 + P.row.length * 1 ≤ _; omega)]
 rw [List.drop_zero]
 have : P.row.length * Enc.k Vl = (flat P.row).length := hf.symm
 rw [this, List.take_left]
theorem Gq.row (h : Gq M₀ M b rb C P sp cap rest) {i : Nat} {p : Value × List Ce} (hp : P[i]? = some p) : P.row[i]? = some ⟨p.1⟩ := by
 show (P.map _)[i]? = _; rw [List.getElem?_map, hp]; rfl
theorem rdV {rv : Value} {R : List Vl} (h : Sl M rv R) {i : Int} {x : Value} (h0 : 0 ≤ i) (hi : R[i.toNat]? = some ⟨x⟩) {j : IntKind} {Pr : Value → Value → Prop} (q : ∀ p, Pr p x) :
  ∃ p, opSem (.addrL 1 (.const rv) (.const (.int j i))) [] M = some (p, M) ∧ ∃ y, opSem (.load none (.const p)) [] M = some (y, M) ∧ Pr p y := rd1 h h0 hi rfl q
theorem New.cells1 {α : Type} [Enc α] {ty : TypeId} {v : Value} {L : List α} (h : New ty M₀ M v L) : v.cells.toList = [v] ∧ v.cells = #[v] ∧ notTup v = true := by
 obtain ⟨b, sp, rfl, _⟩ := h; exact ⟨rfl, rfl, rfl⟩
theorem flat_row (P : Parts) : flat P.row = P.map (·.1) := by
 induction P with
 | nil => rfl
 | cons p P ih => show Enc.enc (⟨p.1⟩ : Vl) ++ flat (Parts.row P) = p.1 :: P.map (·.1); rw [ih]; rfl
abbrev Chr (rb : Nat) (M M' : Mem) : Prop := Touch (fun c => c = rb) M M'
theorem Gq.set (e : Ext M₀ M) (hb0 : M₀.base ≤ M₀.size) (h : Gq M₀ M b rb C P sp cap rest) {i : Nat} (hi : i < P.length) {x : Value} {L : List Ce} (hx : New 42 M₀ M x L) (hL : L.length = C) {j : IntKind} {Pr : Value → Value → Mem → Prop}
  (q : ∀ p u M', Chr rb M M' → Gq M₀ M' b rb C (P.set i (x, L)) sp cap rest → Pr p u M') :
  ∃ p, opSem (.addrL 1 (.const (.slice (some ⟨rb, 0, sp⟩) P.length cap)) (.const (.int j (i : Int)))) [] M = some (p, M) ∧ ∃ u M', opSem (.store 1 (.const p) (.const x)) [] M = some (u, M') ∧ Pr p u M' := by
 refine ⟨.pointer (some ⟨rb, 0 + i * 1, none⟩), ?_, ?_⟩
 ·simp only [opSem, ev]
  rw [if_pos ⟨by omega, by omega⟩, Int.toNat_natCast]
 ·have hl : (flat P.row).length = P.length := by rw [flat_row, List.length_map]
  have hbs := Mem.lt_of_get h.gr
  have hr := h.hr
  have hbb := h.hb
  have eb := e.base
  have hset : (flat P.row ++ rest).set (0 + i * 1) x = flat (Parts.row (P.set i (x, L))) ++ rest := by
   rw [List.set_append_left _ _ (by omega), flat_row, flat_row, List.map_set, Nat.zero_add, Nat.mul_one]
  refine pt_st h.gr (by omega) (by rw [List.length_append]; omega) hx.cells1.1 hx.cells1.2.2 fun u M' hM' => ?_
  rw [hset] at hM'
  have t : Chr rb M M' := by subst hM'; exact Touch.set (p := fun c => c = rb) (Touch.refl _ M) rfl hbs _
  have hk : ∀ c, c = rb → ∀ x w, M.get c ≠ some (.cells x 42 w) := fun c hc => h.kinds c (.inr hc)
  refine q _ u M' t { h with gb := ?_, gr := ?_, cap := by rw [List.length_set]; exact h.cap, rows := fun p hp => ?_, cols := fun p hp => ?_, n1 := by rw [List.length_set]; exact h.n1, n2 := by rw [List.length_set]; exact h.n2 }
  ·rw [t.get b (Mem.lt_of_get h.gb) h.ne, List.length_set]; exact h.gb
  ·rw [hM', Mem.get_set _ _ _ hbs, if_pos rfl]
  ·rcases List.mem_or_eq_of_mem_set hp with hp | rfl
   ·exact (h.rows p hp).touch t hk
   ·exact hx.touch t hk
  ·rcases List.mem_or_eq_of_mem_set hp with hp | rfl
   ·exact h.cols p hp
   ·exact hL
end
section
variable {M : Mem} {Q : Value → Mem → Prop}
theorem step_clone {α : Type} [E : Enc α] {ty : TypeId} {bytes : Nat} {a : Option Addr} {n cap : Nat} {L : List α} (hM : M.base ≤ M.size) (h : Sl M (.slice a n cap) L) (hL : L.length ≤ 2 ^ 20) (hby : bytes ≤ 2 ^ 20) (hk : ∀ z : List Value, flat ([] : List α) = []) (q : ∀ M' r, Ext M M' → Mine ty M M' r L → Q r M') :
  ∃ v1, binV .eql 4 [] (.slice a n cap) (.slice none 0 0) = some v1 ∧ wpIf v1 (Q (.slice none 0 0) M) (∃ v2 M3, opSem (.lit ty 0 [] []) [] M = some (v2, M3) ∧ ∃ v4 M5, opSem (.append ty bytes E.k false (.const v2) (.const (.slice a n cap))) [] M3 = some (v4, M5) ∧ Q v4 M5) := by
 cases a with
 | none =>
  have h0 : L = [] := by
   obtain ⟨a', cap', he, _, h2⟩ := h
   cases he
   rcases h2 with h2 | ⟨b, off, sp, h3, _⟩
   ·exact h2
   ·cases h3
  subst h0
  refine ⟨.bool true, rfl, wpIf.tt (q M _ (Ext.refl _) (.inr ⟨rfl, rfl⟩))⟩
 | some a =>
  refine ⟨.bool false, rfl, wpIf.ff (step_lit (α := α) [] rfl rfl fun v2 M3 e3 n3 => ?_)⟩
  refine step_app e3 hM n3 (h.ext e3).srcs (by simp only [List.length_nil]; omega) (by simp only [List.length_nil, Nat.zero_add]; exact Nat.le_trans (Nat.mul_le_mul hL hby) (by decide)) fun v4 M5 e5 n5 _ => q M5 v4 e5 (.inl n5)
theorem cloneC_W (hM : M.base ≤ M.size) {v : Value} {L : List Ce} (h : Sl M v L) (hL : L.length ≤ 2 ^ 20) (q : ∀ M' r, Ext M M' → Mine 42 M M' r L → Q r M') : W funs known (.func (.func n_slices_Clone_api_Cell_api_Cell) #[] #[]) [v] M Q := by
 obtain ⟨a, cap, rfl⟩ := h.shape
 exact slices_Clone_api_Cell_api_Cell_wp hM (step_clone hM h hL (by decide) (fun _ => rfl) q)
def Room (ty : TypeId) (M₀ M : Mem) (v : Value) (L : List Vl) : Prop := Mine ty M₀ M v L ∨ (L = [] ∧ ∃ b cap, v = .slice (some ⟨b, 0, none⟩) 0 cap ∧ M.get b = some (.cells [] ty true) ∧ M₀.size ≤ b)
theorem Room.sl {ty : TypeId} {M₀ : Mem} {v : Value} {L : List Vl} (h : Room ty M₀ M v L) : Sl M v L := by
 rcases h with h | ⟨rfl, b, cap, rfl, _⟩
 ·exact h.sl
 ·exact ⟨_, cap, rfl, Nat.zero_le _, .inl rfl⟩
theorem Room.ext {M' : Mem} {ty : TypeId} {M₀ : Mem} {v : Value} {L : List Vl} (e : Ext M M') (h : Room ty M₀ M v L) : Room ty M₀ M' v L := by
 rcases h with h | ⟨h0, b, cap, h1, h2, h3⟩
 ·exact .inl (h.ext e)
 ·exact .inr ⟨h0, b, cap, h1, e.same h2, h3⟩
abbrev Rws := List (Value × List Vl)
abbrev Rws.row (R : Rws) : List Vl := R.map fun p => ⟨p.1⟩
abbrev Rws.all (R : Rws) : List Vl := (R.map fun p => p.2).flatten
end
end Go.Proofs.Ytifemfnjoobiiaa.Run
