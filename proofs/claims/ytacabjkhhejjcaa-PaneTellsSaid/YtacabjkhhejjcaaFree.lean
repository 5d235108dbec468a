/- What the iterator places of chapter 26 yields, and what Free counts. -/
import Derived.Test.YtacabjkhhejjcaaPaneC
import Derived.Test.YtacabjkhhejjcaaRange
import Derived.Test.YtacabjkhhejjcaaVcN
namespace Go.Proofs.Ytacabjkhhejjcaa.Run
open Go Go.RowKit
set_option linter.unusedVariables false
set_option linter.unusedSimpArgs false

/-! ### Sets of places, as maps -/

abbrev Ps := Int × Int
abbrev posV (p : Ps) : Value := .agg #[.int .i64 p.1, .int .i64 p.2]
theorem eqPos (a b : Ps) : eqV true [0, 0] (posV a) (posV b) = some (decide (a = b)) := by
  obtain ⟨a1, a2⟩ := a
  obtain ⟨b1, b2⟩ := b
  show eqCells [0, 0] _ _ = _
  refine Eq.trans (eqK_int (eqK_int eqK_nil)) ?_
  congr 1
  simp only [Prod.mk.injEq, Bool.and_true]
  rw [Bool.eq_iff_iff]
  simp only [Bool.and_eq_true, decide_eq_true_eq]
def ins (T : List Ps) (p : Ps) : List Ps := if p ∈ T then T else T ++ [p]
theorem mem_ins {T : List Ps} {p x : Ps} : x ∈ ins T p ↔ x ∈ T ∨ x = p := by
  unfold ins
  split
  · rename_i h
    exact ⟨.inl, fun h' => h'.elim id (fun e => e ▸ h)⟩
  · simp
theorem nodup_ins {T : List Ps} (h : T.Nodup) (p : Ps) : (ins T p).Nodup := by
  unfold ins
  split
  · exact h
  · rename_i hp
    refine List.nodup_append.2 ⟨h, by simp, fun a ha b hb => ?_⟩
    rw [List.mem_singleton.1 hb]
    rintro rfl
    exact hp ha
theorem findK_set : ∀ (es : List MapEntry) (T : List Ps) (p : Ps) (i : Nat), es.map (·.key) = T.map posV → (p ∉ T ∧ findK true [0, 0] (posV p) es i = some none) ∨ (p ∈ T ∧ ∃ (j : Nat) (v : Value) (e : MapEntry), findK true [0, 0] (posV p) es i = some (some (i + j, v)) ∧ es[j]? = some e ∧ e.key = posV p)
  | [], T, p, i, h => by
    have : T = [] := by simpa using h.symm
    subst this
    exact .inl ⟨by simp, rfl⟩
  | e :: es, T, p, i, h => by
    cases T with
    | nil => simp at h
    | cons t T =>
      simp only [List.map_cons, List.cons.injEq] at h
      obtain ⟨h1, h2⟩ := h
      by_cases hp : p = t
      · subst hp
        refine .inr ⟨by simp, 0, e.val, e, ?_, rfl, h1⟩
        unfold findK
        rw [h1, eqPos, decide_eq_true rfl]; rfl
      · have hstep : findK true [0, 0] (posV p) (e :: es) i = findK true [0, 0] (posV p) es (i + 1) := by
          conv => lhs; unfold findK
          rw [h1, eqPos, decide_eq_false hp]
        rw [hstep]
        rcases findK_set es T p (i + 1) h2 with ⟨h3, h4⟩ | ⟨h3, j, v, e', h4, h5, h6⟩
        · exact .inl ⟨by simp [hp, h3], h4⟩
        · exact .inr ⟨by simp [h3], j + 1, v, e', by rw [h4]; congr 3; omega, by simpa using h5, h6⟩
def IsSet (N : Mem) (m : Nat) (T : List Ps) : Prop := ∃ es clock, N.get m = some (.map es clock) ∧ es.map (·.key) = T.map posV
theorem IsSet.same {N N' : Mem} {m : Nat} {T : List Ps} (h : IsSet N m T) (e : N'.get m = N.get m) : IsSet N' m T := by
  obtain ⟨es, c, h1, h2⟩ := h
  exact ⟨es, c, e.trans h1, h2⟩
theorem step_ins {N : Mem} {m : Nat} {T : List Ps} (h : IsSet N m T) (hb : N.base ≤ m) {p : Ps} {x : Value} {PM : Value → Mem → Prop} (q : ∀ v o, IsSet (N.set m o) m (ins T p) → PM v (N.set m o)) :
    ∃ v N', opSem (.mapUpd true [0, 0] (.const (.map (some m))) (.const (posV p)) (.const x)) [] N = some (v, N') ∧ PM v N' := by
  obtain ⟨es, clock, h1, h2⟩ := h
  have hk : keyOk true [0, 0] (posV p) = true := rfl
  have hm := Mem.lt_of_get h1
  rcases findK_set es T p 0 h2 with ⟨h3, h4⟩ | ⟨h3, j, v, e, h4, h5, h6⟩
  · refine ⟨undef, N.set m (mapPut es clock (posV p) x none), ?_, q _ _ ⟨es ++ [{ key := posV p, val := x, born := clock }], clock + 1, by rw [Mem.get_set _ _ _ hm, if_pos rfl]; rfl, ?_⟩⟩
    · show (match N.get m with
        | some (.map es clock) => if N.base ≤ m ∧ keyOk true [0, 0] (posV p) = true then (findK true [0, 0] (posV p) es 0).map fun f => (undef, N.set m (mapPut es clock (posV p) x f)) else none
        | _ => none) = _
      rw [h1]
      simp only
      rw [if_pos ⟨hb, hk⟩, h4]; rfl
    · unfold ins; rw [if_neg h3]; simp [h2]
  · refine ⟨undef, N.set m (mapPut es clock (posV p) x (some (0 + j, v))), ?_, q _ _ ⟨es.modify (0 + j) fun e => { e with key := posV p, val := x }, clock, by rw [Mem.get_set _ _ _ hm, if_pos rfl]; rfl, ?_⟩⟩
    · show (match N.get m with
        | some (.map es clock) => if N.base ≤ m ∧ keyOk true [0, 0] (posV p) = true then (findK true [0, 0] (posV p) es 0).map fun f => (undef, N.set m (mapPut es clock (posV p) x f)) else none
        | _ => none) = _
      rw [h1]
      simp only
      rw [if_pos ⟨hb, hk⟩, h4]; rfl
    · unfold ins; rw [if_pos h3, ← h2, Nat.zero_add]
      apply List.ext_getElem?
      intro i
      rw [List.getElem?_map, List.getElem?_map, List.getElem?_modify]
      by_cases hij : j = i
      · subst hij
        rw [h5]; simp [h6]
      · cases es[i]? <;> simp [hij]
theorem step_setlen {N : Mem} {m : Nat} {T : List Ps} (h : IsSet N m T) {P : Value → Prop} (p : P (.int .i64 T.length)) : ∃ v, opSem (.len 2 (.const (.map (some m)))) [] N = some (v, N) ∧ P v := by
  obtain ⟨es, clock, h1, h2⟩ := h
  have : es.length = T.length := by simpa using congrArg List.length h2
  exact ⟨_, by simp only [opSem, ev, h1, this], p⟩

/-! ### The iterator -/

/-- what places yields -/
def cellsF (c : Rc) : List (List Value) := (List.range c.r.toNat).flatMap fun i => (List.range c.c.toNat).map fun k => [posV (c.t + (i : Nat), c.l + (k : Nat))]
theorem rows_get {β : Type} (f : Nat → Nat → β) (w : Nat) : ∀ (h i k : Nat), i < h → k < w → ((List.range h).flatMap fun i => (List.range w).map (f i))[i * w + k]? = some (f i k) := by
  have hlen : ∀ h, ((List.range h).flatMap fun i => (List.range w).map (f i)).length = h * w := fun h => by
    induction h with
    | zero => simp
    | succ h ih => rw [List.range_succ, List.flatMap_append, List.length_append, ih, Nat.add_mul]; simp
  intro h
  induction h with
  | zero => intro i k hi; omega
  | succ h ih =>
    intro i k hi hk
    rw [List.range_succ, List.flatMap_append]
    by_cases hih : i < h
    · rw [List.getElem?_append_left]
      · exact ih i k hih hk
      · rw [hlen]
        have : (i + 1) * w ≤ h * w := Nat.mul_le_mul_right _ hih
        rw [Nat.add_mul] at this; omega
    · have : i = h := by omega
      subst this
      rw [List.getElem?_append_right (by rw [hlen]; omega), hlen, show i * w + k - i * w = k by omega]
      simp [hk]
theorem cellsF_len (c : Rc) : (cellsF c).length = c.r.toNat * c.c.toNat := by
  unfold cellsF
  generalize c.r.toNat = h
  generalize c.c.toNat = w
  induction h with
  | zero => simp
  | succ h ih => rw [List.range_succ, List.flatMap_append, List.length_append, ih, Nat.add_mul]; simp

theorem clip_small {a : Rc} {R C : Int} (hR : 0 ≤ R ∧ R ≤ 512) (hC : 0 ≤ C ∧ C ≤ 512) : 0 ≤ (clipF a R C).t ∧ (clipF a R C).t + (clipF a R C).r ≤ 512 ∧ 0 ≤ (clipF a R C).l ∧ (clipF a R C).l + (clipF a R C).c ≤ 512 ∧ 0 ≤ (clipF a R C).r ∧ 0 ≤ (clipF a R C).c := by
  unfold clipF
  split
  · simp
  · unfold rspanF at *
    split <;> split <;> (try split) <;> (try split) <;> simp only at * <;> omega

section
variable {Q : Value → Mem → Prop}
abbrev plV (b1 b3 b5 : Nat) : Value := .func (.func n_pane_places_1) #[] #[.pointer (some ⟨b1, 0, none⟩), .pointer (some ⟨b3, 0, none⟩), .pointer (some ⟨b5, 0, none⟩)]
abbrev ioI (n0 b1 : Nat) (y : Value) (c : Rc) (I : Nat → List Nat → Mem → Prop) (bs : Nat) : Nat → LS → Prop := fun k s => ∃ (i : Nat) (N : Mem) (B : List Nat), s = pane_places_1_l0_s y (.pointer (some ⟨b1, 0, none⟩)) (.int .i64 c.r) (.int .i64 i) [] N ∧ I (i * c.c.toNat) B N ∧ N.get b1 = some (.cells (Enc.enc c) 34 true) ∧ N.base = bs ∧ n0 ≤ N.size ∧ i ≤ c.r.toNat ∧ k = c.r.toNat - i
abbrev iiI (n0 b1 : Nat) (y : Value) (c : Rc) (I : Nat → List Nat → Mem → Prop) (bs : Nat) (i : Nat) : Nat → LS → Prop := fun k s => ∃ (j : Nat) (N : Mem) (B : List Nat), s = pane_places_1_l2_s y (.pointer (some ⟨b1, 0, none⟩)) (.int .i64 i) (.int .i64 c.r) (.int .i64 i) (.int .i64 c.c) (.int .i64 j) [] N ∧ I (i * c.c.toNat + j) B N ∧ N.get b1 = some (.cells (Enc.enc c) 34 true) ∧ N.base = bs ∧ n0 ≤ N.size ∧ j ≤ c.c.toNat ∧ k = c.c.toNat - j

set_option maxHeartbeats 1000000 in
theorem places_iter {M1 Mr : Mem} {b1 b3 b5 : Nat} {a : Rc} (ha : a.ok) {R C : Int} (hR : 0 ≤ R ∧ R ≤ 512) (hC : 0 ≤ C ∧ C ≤ 512) (g1 : M1.get b1 = some (.cells (Enc.enc a) 34 true)) (g3 : M1.load1 b3 0 = some (.int .i64 R)) (g5 : M1.load1 b5 0 = some (.int .i64 C)) (hb1 : M1.base ≤ b1) :
    Iter funs known (plV b1 b3 b5) [b1] Mr M1 (cellsF (clipF a R C)) := by
  intro y I Stop M0 hb e1 Y hr i0
  have hbase := e1.base
  have l1 := Mem.lt_of_get g1
  have hs1 := e1.size
  have c1 : M0.get b1 = some (.cells (Enc.enc a) 34 true) := e1.same g1
  refine pane_places_1_wp hb ⟨a.val, ?_, .int .i64 R, ?_, .int .i64 C, ?_, ?_⟩
  · simp only [opSem, ev, Mem.loadN, c1]; rfl
  · simp only [opSem, ev, load1_ext e1 g3]; rfl
  · simp only [opSem, ev, load1_ext e1 g5]; rfl
  refine clip_W hb ha ⟨by omega, by omega⟩ ⟨by omega, by omega⟩ fun M5 e5 => ?_
  have hsm := clip_small (a := a) hR hC
  generalize clipF a R C = c at hsm Y ⊢
  have c5 : M5.get b1 = some (.cells (Enc.enc a) 34 true) := e5.same c1
  have l5 := Mem.lt_of_get c5
  have hst : opSem (.store 4 (.const (.pointer (some ⟨b1, 0, none⟩))) (.const c.val)) [] M5 = some (undef, M5.set b1 (.cells (Enc.enc c) 34 true)) := by
    have : M5.storeQ b1 0 (Enc.enc c) = some (M5.set b1 (.cells (Enc.enc c) 34 true)) := by
      simp only [Mem.storeQ, Mem.storeN, c5]
      rw [if_pos ⟨by have := e5.base; omega, Nat.le_refl 4⟩]; rfl
    show (if (4 = 4 ∧ true = true) then (M5.storeQ b1 0 (Enc.enc c)).map fun M' => (undef, M') else none) = _
    rw [this]; rfl
  refine ⟨undef, _, hst, ?_⟩
  have b7 : (M5.set b1 (.cells (Enc.enc c) 34 true)).get b1 = some (.cells (Enc.enc c) 34 true) := by rw [Mem.get_set _ _ _ l5, if_pos rfl]
  have i7 : I 0 [] (M5.set b1 (.cells (Enc.enc c) 34 true)) := Y.mono _ _ _ _ i0 ⟨e5.base, e5.size, fun b hb' => by
    rcases hb' with ⟨h1, h2⟩ | h
    · rw [Mem.get_set _ _ _ l5, if_neg (by simpa using h2)]; exact e5.get b h1
    · cases h⟩
  have s7 : M0.size ≤ (M5.set b1 (.cells (Enc.enc c) 34 true)).size := e5.size
  have bs7 : (M5.set b1 (.cells (Enc.enc c) 34 true)).base = M0.base := e5.base
  generalize M5.set b1 (.cells (Enc.enc c) 34 true) = M7 at b7 i7 s7 bs7
  have fld : ∀ (N : Mem) (f : Nat) (v : Value), N.get b1 = some (.cells (Enc.enc c) 34 true) → (Enc.enc c)[f]? = some v → opSem (.load none (.const (.pointer (some ⟨b1, 0 + f, none⟩)))) [] N = some (v, N) := fun N f v hg hv => by
    simp only [opSem, ev, Mem.load1, hg, Nat.zero_add, hv]; rfl
  refine ⟨_, rfl, _, fld M7 2 _ b7 rfl, ?_⟩
  have hlen := cellsF_len c
  refine ⟨pane_places_1_l0_m, ioI M0.size b1 y c I M0.base, ⟨c.r.toNat, 0, M7, [], rfl, by rw [Nat.zero_mul]; exact i7, b7, bs7, s7, Nat.zero_le _, rfl⟩, ?_⟩
  rintro k s ⟨i, N, B, rfl, iN, gN, bN, sN, hi, rfl⟩
  refine pane_places_1_l0_wp (I := ioI M0.size b1 y c I M0.base) ?_
  refine step_lss (wpIf.dec (fun h1 => ?_) (fun h1 => ?_))
  · refine ⟨_, rfl, _, fld N 3 _ gN rfl, ?_⟩
    refine ⟨pane_places_1_l2_m, iiI M0.size b1 y c I M0.base i, ⟨c.c.toNat, 0, N, B, rfl, iN, gN, bN, sN, Nat.zero_le _, rfl⟩, ?_⟩
    clear iN gN bN sN
    rintro k s ⟨j, N, B, rfl, iN, gN, bN, sN, hj, rfl⟩
    refine pane_places_1_l2_wp (I := iiI M0.size b1 y c I M0.base i) ?_
    refine step_lss (wpIf.dec (fun h2 => ?_) (fun h2 => ?_))
    · refine ⟨_, rfl, _, fld N 0 _ gN rfl, step_add (by omega) (by omega) ⟨_, rfl, _, fld N 1 _ gN rfl, step_add (by omega) (by omega) ⟨posV (c.t + (i : Nat), c.l + (j : Nat)), rfl, ?_⟩⟩⟩
      have hitem : (cellsF c)[i * c.c.toNat + j]? = some [posV (c.t + (i : Nat), c.l + (j : Nat))] := rows_get (fun i k => [posV (c.t + ((i : Nat) : Int), c.l + ((k : Nat) : Int))]) _ _ i j (by omega) (by omega)
      refine (Y.call _ _ B N hitem iN sN (by omega)).mono ?_
      rintro r N' ⟨p1, p2, B', p3, p4, p5⟩
      have hb1N : b1 < N.size := Mem.lt_of_get gN
      have hbB : b1 ∉ B := fun h => by have := (Y.own _ _ _ iN b1 h).1; omega
      have gN' : N'.get b1 = some (.cells (Enc.enc c) 34 true) := by rw [p4 b1 hb1N hbB (.inr (by simp))]; exact gN
      rcases p5 with ⟨rfl, p5⟩ | ⟨rfl, p5⟩
      · refine ⟨_, rfl, wpIf.ff (step_add (by omega) (by omega) ⟨c.c.toNat - (j + 1), by omega, j + 1, N', B', rfl, p5, gN', by rw [p1]; exact bN, by omega, by omega, rfl⟩)⟩
      · refine ⟨_, rfl, wpIf.tt ?_⟩
        have fin : N'.base = M0.base ∧ M0.size ≤ N'.size ∧ ∃ B, I (cellsF c).length B N' ∨ Stop B N' := ⟨by rw [p1]; exact bN, by omega, B', .inr p5⟩
        exact fin
    · have hjc : j = c.c.toNat := by omega
      subst hjc
      refine pane_places_1_l2_out (pane_places_1_c1_wp (step_add (by omega) (by omega) ⟨c.r.toNat - (i + 1), by omega, i + 1, N, B, rfl, ?_, gN, bN, sN, by omega, rfl⟩))
      rw [Nat.add_mul, Nat.one_mul]; exact iN
  · have hir : i = c.r.toNat := by omega
    subst hir
    refine pane_places_1_l0_out ⟨bN, sN, B, .inl ?_⟩
    rw [hlen]; exact iN

theorem places_W {M : Mem} (hM : M.base ≤ M.size) {a : Rc} (ha : a.ok) {R C : Int} (hR : 0 ≤ R ∧ R ≤ 512) (hC : 0 ≤ C ∧ C ≤ 512) (q : ∀ M' b1 b3 b5, Ext M M' → M.size ≤ b1 ∧ b1 < M'.size → (∀ Mr, Iter funs known (plV b1 b3 b5) [b1] Mr M' (cellsF (clipF a R C))) → Q (plV b1 b3 b5) M') :
    W funs known (.func (.func n_pane_places) #[] #[]) [a.val, .int .i64 R, .int .i64 C] M Q := by
  refine pane_places_wp hM ⟨rfl, fun b1 M2 hb1 hM2 => ⟨rfl, fun b3 M4 hb3 hM4 => ⟨rfl, fun b5 M6 hb5 hM6 => ?_⟩⟩⟩
  have e2 : Ext M M2 := Ext.push' hM2
  have e4 : Ext M2 M4 := Ext.push' hM4
  have e6 : Ext M4 M6 := Ext.push' hM6
  have s2 : M2.size = M.size + 1 := by rw [hM2]; rfl
  have s4 : M4.size = M2.size + 1 := by rw [hM4]; rfl
  have s6 : M6.size = M4.size + 1 := by rw [hM6]; rfl
  have g2 : M2.get b1 = some (.cells (Enc.enc a) 34 true) := by rw [hM2, Mem.get_push, if_pos hb1]; rfl
  have g4 : M4.get b3 = some (.cells [.int .i64 R] 3 true) := by rw [hM4, Mem.get_push, if_pos hb3]
  have g6 : M6.get b5 = some (.cells [.int .i64 C] 3 true) := by rw [hM6, Mem.get_push, if_pos hb5]
  have e26 := e4.trans e6
  refine q M6 b1 b3 b5 (e2.trans e26) ⟨by omega, by omega⟩ fun Mr => places_iter ha hR hC (e26.same g2) ?_ ?_ ?_
  · simp [Mem.load1, e6.same g4]
  · simp [Mem.load1, g6]
  · have := (e2.trans e26).base; omega

/-- places that a rectangle has -/
def hasC (c : Rc) (p : Ps) : Prop := c.t ≤ p.1 ∧ p.1 < c.t + c.r ∧ c.l ≤ p.2 ∧ p.2 < c.l + c.c
theorem mem_cells {c : Rc} {p : Ps} : [posV p] ∈ cellsF c ↔ hasC c p := by
  unfold cellsF hasC
  simp only [List.mem_flatMap, List.mem_range, List.mem_map, List.cons.injEq, and_true]
  constructor
  · rintro ⟨i, hi, k, hk, h⟩
    obtain ⟨p1, p2⟩ := p
    simp only [posV, Value.agg.injEq] at h
    have h1 : c.t + (i : Int) = p1 ∧ c.l + (k : Int) = p2 := by simpa using h
    simp only
    omega
  · rintro ⟨h1, h2, h3, h4⟩
    refine ⟨(p.1 - c.t).toNat, by omega, (p.2 - c.l).toNat, by omega, ?_⟩
    have e1 : c.t + (((p.1 - c.t).toNat : Nat) : Int) = p.1 := by omega
    have e2 : c.l + (((p.2 - c.l).toNat : Nat) : Int) = p.2 := by omega
    rw [e1, e2]
theorem item_pos {c : Rc} {i : Nat} {x : List Value} (h : (cellsF c)[i]? = some x) : ∃ p : Ps, x = [posV p] ∧ 0 ≤ 0 := by
  have := List.mem_of_getElem? h
  unfold cellsF at this
  simp only [List.mem_flatMap, List.mem_range, List.mem_map] at this
  obtain ⟨i, _, k, _, rfl⟩ := this
  exact ⟨_, rfl, Nat.le_refl _⟩

/-- what is taken, of some rectangles -/
def TakenBy (R C : Int) (L : List Rc) (T : List Ps) : Prop := T.Nodup ∧ ∀ p : Ps, p ∈ T ↔ 0 < p.1 ∧ ∃ a ∈ L, hasC (clipF a R C) p
abbrev frI (M : Mem) (R C : Int) (L : List Rc) (v : Value) (b6 m : Nat) : Nat → LS → Prop := fun k s => ∃ (i : Nat) (N : Mem) (T : List Ps) (ds : List Nat) (x26 : Value), s = pane_Free_l1_s (.int .i64 R) (.int .i64 C) v (.int .i64 L.length) (.int .i64 i) x26 b6 (.map (some m)) ds N ∧ Ext M N ∧ m + 2 ≤ N.size ∧ IsSet N m T ∧ TakenBy R C (L.take i) T ∧ (∀ d ∈ ds, M.size ≤ d ∧ N.get d = some .dblk) ∧ ds.Nodup ∧ i ≤ L.length ∧ k = L.length - i

theorem rows_len {β : Type} (f : Nat → Nat → β) (w h : Nat) : ((List.range h).flatMap fun i => (List.range w).map (f i)).length = h * w := by
  induction h with
  | zero => simp
  | succ h ih => rw [List.range_succ, List.flatMap_append, List.length_append, ih, Nat.add_mul]; simp
theorem taken_small {R C : Int} (hR : 0 ≤ R ∧ R ≤ 512) (hC : 0 ≤ C ∧ C ≤ 512) {L : List Rc} {T : List Ps} (h : TakenBy R C L T) : T.length ≤ 512 * 512 := by
  have : T ⊆ (List.range 512).flatMap fun i => (List.range 512).map fun k => (((i : Nat) : Int), ((k : Nat) : Int)) := fun p hp => by
    obtain ⟨h1, a, ha, h2⟩ := (h.2 p).1 hp
    have hs := clip_small (a := a) hR hC
    unfold hasC at h2
    simp only [List.mem_flatMap, List.mem_range, List.mem_map]
    refine ⟨p.1.toNat, by omega, p.2.toNat, by omega, ?_⟩
    obtain ⟨p1, p2⟩ := p
    simp only at *
    rw [Int.toNat_of_nonneg (by omega), Int.toNat_of_nonneg (by omega)]
  refine Nat.le_trans (h.1.length_le_of_subset this) ?_
  rw [rows_len (fun i k => (((i : Nat) : Int), ((k : Nat) : Int)))]; exact Nat.le_refl _

set_option maxHeartbeats 2000000 in
theorem free_W {M : Mem} (hM : M.base ≤ M.size) {R C : Int} {v : Value} {L : List Rc} (h : Sl M v L) (hok : ∀ a ∈ L, a.ok) (hL : L.length < 2 ^ 60) (q0 : screenF R C = false → Q (.int .i64 0) M) (q : screenF R C = true → ∀ M', Ext M M' → ∀ T, TakenBy R C L T → Q (.int .i64 ((R - 1) * C - T.length)) M') :
    W funs known (.func (.func n_pane_Free) #[] #[]) [.int .i64 R, .int .i64 C, v] M Q := by
  obtain ⟨ad, cap, rfl⟩ := h.shape
  refine pane_Free_wp hM (screen_W hM ⟨_, rfl, ?_⟩)
  by_cases hs : screenF R C = true
  rotate_left
  · have hs : screenF R C = false := by simpa using hs
    rw [hs]
    exact wpIf.tt (q0 hs)
  have q := q hs
  rw [hs]
  have hRC : 2 ≤ R ∧ R ≤ 512 ∧ 1 ≤ C ∧ C ≤ 512 := of_decide_eq_true hs
  refine wpIf.ff ⟨.map (some M.size), M.push (.map [] 0), rfl, rfl, fun b6 M7 hb6 hM7 => ⟨_, rfl, rfl, by decide, fun M8 hM8 => step_len ?_⟩⟩
  have e5 : Ext M (M.push (.map [] 0)) := Ext.push _ _
  have s5 : (M.push (.map [] 0)).size = M.size + 1 := rfl
  have e7 : Ext M M7 := e5.trans (Ext.push' hM7)
  have s7 : M7.size = M.size + 2 := by rw [hM7]; rfl
  have e8 : Ext M M8 := hM8 ▸ e7.set (by omega) (by omega) _
  have s8 : M8.size = M.size + 2 := by rw [hM8]; exact s7
  have m8 : IsSet M8 M.size [] := ⟨[], 0, by rw [hM8, Mem.get_set _ _ _ (by omega), if_neg (by omega), hM7, Mem.get_push, if_neg (by omega), Mem.get_push, if_pos rfl], rfl⟩
  have hb6' : b6 = M.size + 1 := by omega
  generalize hm : M.size = m at m8
  refine ⟨pane_Free_l1_m, frI M R C L (.slice ad L.length cap) b6 m, ⟨L.length, 0, M8, [], [], _, rfl, e8, by omega, m8, ⟨List.nodup_nil, fun p => by simp⟩, by simp, List.nodup_nil, Nat.zero_le _, rfl⟩, ?_⟩
  rintro k s ⟨i, N, T, ds, x26, rfl, eN, yN, mN, tN, dN, nd, hi, rfl⟩
  refine pane_Free_l1_wp (I := frI M R C L (.slice ad L.length cap) b6 m) ?_
  have bN := eN.base
  have zN := eN.size
  refine step_lss (wpIf.dec (fun h1 => ?_) (fun h1 => ?_))
  · obtain ⟨a, haL⟩ : ∃ a, L[i]? = some a := ⟨_, List.getElem?_eq_getElem (by omega)⟩
    have ha := hok a (List.mem_of_getElem? haL)
    refine rd (h.ext eN) (by omega) (by rw [Int.toNat_natCast]; exact haL) fun _ => ⟨rfl, fun b4 N5 hb4 hN5 => ⟨⟨rfl, rfl, by decide⟩, fun N6 hN6 => ?_⟩⟩
    have f5 : Ext N N5 := Ext.push' hN5
    have t5 : N5.size = N.size + 1 := by rw [hN5]; rfl
    have f6 : Ext N N6 := hN6 ▸ f5.set (by omega) (by omega) _
    have t6 : N6.size = N5.size := by rw [hN6]; rfl
    refine LGetN.as a.val (by exact Nat.le_refl 4) rfl (places_W ((eN.trans f6).ok hM) ha ⟨by omega, by omega⟩ ⟨by omega, by omega⟩ fun N9 b1 b3 b5 f9 hb1 it => ⟨f9.keep _, ?_⟩)
    have f09 := f6.trans f9
    have m9 : IsSet N9 m T := mN.same (f09.get m (by omega))
    have z9 := f9.size
    have dlt : ∀ d ∈ ds, d < N.size := fun d hd => Mem.lt_of_get (dN d hd).2
    generalize hc : clipF a R C = c at it
    refine range_none (X := [b1]) (Mr := M) (M1 := N9) (items := cellsF c) (g := n_pane_places_1) (first := #[]) (cap := #[.pointer (some ⟨b1, 0, none⟩), .pointer (some ⟨b3, 0, none⟩), .pointer (some ⟨b5, 0, none⟩)]) (Y0 := [m])
      (J := fun n B K P => B = [] ∧ K = [⟨b6, [.map (some m)], 58⟩, ⟨b4, Enc.enc a, 34⟩] ∧ Ext M P ∧ (∀ d ∈ ds, P.get d = some .dblk) ∧ ∃ U, IsSet P m U ∧ U.Nodup ∧ ∀ p : Ps, p ∈ U ↔ p ∈ T ∨ (0 < p.1 ∧ ∃ j, j < n ∧ (cellsF c)[j]? = some [posV p]))
      (Z := fun _ _ _ _ => False) ?hf ?it ?e1 ?hX ?hY ?len ?Jm ?Zm ?Jr ?Jb ?Zb ?Js ?Zs ?J0 ?body ?done ?zdone
    case hf => rfl
    case it => exact it M
    case e1 => exact Ext.refl _
    case hX =>
      intro b hb
      rw [List.mem_singleton] at hb
      subst hb
      refine ⟨hb1.2, ?_⟩
      show b ∉ [b6, b4]
      simp only [List.mem_cons, List.not_mem_nil, or_false, not_or]
      omega
    case hY =>
      intro b hb
      rw [List.mem_singleton] at hb
      subst hb
      refine ⟨by show b < N9.size; omega, ?_⟩
      rw [List.mem_singleton]; omega
    case len =>
      intro x hx
      obtain ⟨j, hj⟩ := List.mem_iff_getElem?.1 hx
      obtain ⟨p, rfl, _⟩ := item_pos hj
      rfl
    case Jm =>
      rintro n B K P P' ⟨rfl, rfl, eP, dP, U, hU, nU, iU⟩ hk
      have kg : ∀ b, b < N9.size → b ≠ b1 → P'.get b = P.get b := fun b hb hne => hk.get b (.inl ⟨hb, by simpa using hne⟩)
      exact ⟨rfl, rfl, ⟨hk.base.trans eP.base, Nat.le_trans eP.size hk.size, fun b hb => (kg b (by omega) (by omega)).trans (eP.get b hb)⟩, fun d hd => by rw [kg d (by have := dlt d hd; omega) (by have := dlt d hd; omega)]; exact dP d hd, U, hU.same (kg m (by omega) (by omega)), nU, iU⟩
    case Zm => exact fun _ _ _ _ _ h _ => h.elim
    case Jr => exact fun _ _ _ _ h => h.2.2.1
    case Jb => intro _ _ _ _ h; rw [h.1]; simp
    case Zb => exact fun _ _ _ _ h => h.elim
    case Js => intro _ _ _ _ h; rw [h.2.1]; rfl
    case Zs => exact fun _ _ _ _ h => h.elim
    case J0 => exact ⟨rfl, rfl, eN.trans f09, fun d hd => f09.same (dN d hd).2, T, m9, tN.1, fun p => by simp⟩
    case body =>
      rintro n x B K P hx ⟨rfl, rfl, eP, dP, U, hU, nU, iU⟩ bP zP kP
      obtain ⟨p, rfl, _⟩ := item_pos hx
      have zP : N9.size + 2 ≤ P.size := zP
      refine pane_Free_a3_body ⟨rfl, fun b7 M2 hb7 hM2 => ⟨⟨rfl, rfl, by decide⟩, fun M3 hM3 => ?_⟩⟩
      have g2 : Ext P M2 := Ext.push' hM2
      have w2 : M2.size = P.size + 1 := by rw [hM2]; rfl
      have g3 : Ext P M3 := hM3 ▸ g2.set (by omega) (by omega) _
      have w3 : M3.size = M2.size := by rw [hM3]; rfl
      refine ⟨rfl, g3.get _ (by show N9.size + 1 < P.size; omega), fun N4 hag => LGet.mk (v := .int .i64 p.1) rfl ?_⟩
      have hag : Agree (N9.size + 1) M3 N4 := hag
      have w4 := hag.size
      have set4 : IsSet N4 m U := hU.same ((hag.get m (by omega)).trans (g3.get m (by omega)))
      have ext4 : ∀ b, b < P.size → b ≠ N9.size + 1 → N4.get b = P.get b := fun b hb hne => (hag.get b hne).trans (g3.get b hb)
      have eP4 : Ext M N4 := ⟨hag.base.trans (g3.base.trans eP.base), by have := eP.size; omega, fun b hb => (ext4 b (by have := eP.size; omega) (by omega)).trans (eP.get b hb)⟩
      have tch : Touch (fun b => b = N9.size + 1 ∨ b ∈ [b6, b4] ∨ b ∈ [m] ∨ b ∈ ([] : List Nat)) P N4 := ⟨hag.base.trans g3.base, by omega, fun b hb hne => ext4 b hb fun e => hne (.inl e)⟩
      have inj : ∀ r : Ps, [posV r] = [posV p] → r = p := fun r e => by
        obtain ⟨r1, r2⟩ := r
        obtain ⟨p1, p2⟩ := p
        simpa using e
      refine step_gtr (wpIf.dec (fun g1 => ?_) (fun g1 => ?_))
      · refine LGetN.as (posV p) (by exact Nat.le_refl 2) rfl ⟨.agg #[], rfl, step_ins set4 (by have := eP4.base; omega) fun v o hset => ?_⟩
        have hm4 : m < N4.size := by omega
        refine ⟨fun b hb _ => ?_, ?_⟩
        · rw [Mem.get_set _ _ _ hm4, if_neg]
          simp only [List.mem_cons, List.not_mem_nil, or_false] at hb
          omega
        refine ⟨by rw [Mem.get_set _ _ _ hm4, if_neg (by show N9.size + 1 ≠ m; omega)], tch.set (.inr (.inr (.inl (by simp)))) hm4 o, [], by simp, .inl ⟨rfl, rfl, rfl, ?_, ?_, ins U p, hset, nodup_ins nU p, fun r => ?_⟩⟩
        · exact ⟨eP4.base, eP4.size, fun b hb => by rw [Mem.get_set _ _ _ hm4, if_neg (by omega)]; exact eP4.get b hb⟩
        · intro d hd
          have hdm : d ≠ m := by
            rintro rfl
            obtain ⟨es, cl, g, _⟩ := mN
            rw [(dN d hd).2] at g; cases g
          rw [Mem.get_set _ _ _ hm4, if_neg hdm, ext4 d (by have := dlt d hd; omega) (by have := dlt d hd; omega)]
          exact dP d hd
        · rw [mem_ins, iU]
          constructor
          · rintro ((h | ⟨h, j, hj, hj'⟩) | rfl)
            · exact .inl h
            · exact .inr ⟨h, j, by omega, hj'⟩
            · exact .inr ⟨g1, n, by omega, hx⟩
          · rintro (h | ⟨h, j, hj, hj'⟩)
            · exact .inl (.inl h)
            · by_cases hjn : j = n
              · subst hjn
                rw [hx] at hj'
                exact .inr (inj r (Option.some.inj hj').symm)
              · exact .inl (.inr ⟨h, j, by omega, hj'⟩)
      · refine ⟨rfl, tch, [], by simp, .inl ⟨rfl, rfl, rfl, eP4, fun d hd => by rw [ext4 d (by have := dlt d hd; omega) (by have := dlt d hd; omega)]; exact dP d hd, U, set4, nU, fun r => ?_⟩⟩
        rw [iU]
        constructor
        · rintro (h | ⟨h, j, hj, hj'⟩)
          · exact .inl h
          · exact .inr ⟨h, j, by omega, hj'⟩
        · rintro (h | ⟨h, j, hj, hj'⟩)
          · exact .inl h
          · by_cases hjn : j = n
            · subst hjn
              rw [hx] at hj'
              have := inj r (Option.some.inj hj').symm
              rw [this] at h
              exact absurd h g1
            · exact .inr ⟨h, j, by omega, hj'⟩
    case done =>
      rintro B K P ⟨rfl, rfl, eP, dP, U, hU, nU, iU⟩ bP zP gd
      have zP : N9.size + 2 ≤ P.size := zP
      refine pane_Free_a3_out (pane_Free_c2_wp (step_add (by omega) (by omega) ⟨L.length - (i + 1), by omega, i + 1, P, U, N9.size :: ds, _, rfl, eP, by omega, hU, ⟨nU, fun p => ?_⟩, ?_, ?_, by omega, rfl⟩))
      · rw [iU, tN.2, List.take_add_one, haL, Option.toList_some]
        have hmem : (∃ j, j < (cellsF c).length ∧ (cellsF c)[j]? = some [posV p]) ↔ hasC c p := by
          rw [← mem_cells, List.mem_iff_getElem?]
          exact ⟨fun ⟨j, _, h⟩ => ⟨j, h⟩, fun ⟨j, h⟩ => ⟨j, (List.getElem?_eq_some_iff.1 h).1, h⟩⟩
        rw [hmem]
        simp only [List.mem_append, List.mem_singleton]
        constructor
        · rintro (⟨h1, a', h2, h3⟩ | ⟨h1, h2⟩)
          · exact ⟨h1, a', .inl h2, h3⟩
          · exact ⟨h1, a, .inr rfl, by rw [hc]; exact h2⟩
        · rintro ⟨h1, a', h2 | rfl, h3⟩
          · exact .inl ⟨h1, a', h2, h3⟩
          · exact .inr ⟨h1, by rw [← hc]; exact h3⟩
      · intro d hd
        rcases List.mem_cons.1 hd with rfl | hd
        · exact ⟨by omega, gd⟩
        · exact ⟨(dN d hd).1, dP d hd⟩
      · rw [List.nodup_cons]
        exact ⟨fun hd => by have := dlt _ hd; omega, nd⟩
    case zdone => exact fun _ _ _ _ h => h.elim
  · have hiL : i = L.length := by omega
    subst hiL
    rw [List.take_length] at tN
    have hsm := taken_small ⟨by omega, by omega⟩ ⟨by omega, by omega⟩ tN
    have hmul : 0 ≤ (R - 1) * C ∧ (R - 1) * C ≤ 511 * 512 := ⟨Int.mul_nonneg (by omega) (by omega), Int.mul_le_mul (by omega) (by omega) (by omega) (by omega)⟩
    refine pane_Free_l1_out (pane_Free_c0_wp (step_sub (by omega) (by omega) (step_mul (by omega) (by omega) (step_setlen mN (step_sub (by omega) (by omega) ?_)))))
    obtain ⟨N', k1, k2, k3, k4⟩ := kill_ok ds N (fun d hd => ⟨by have := (dN d hd).1; omega, (dN d hd).2⟩) nd
    refine (retK_ds ⟨N', k1, ?_⟩).2
    exact q N' ⟨k2.trans bN, by omega, fun b hb => (k4 b fun hd => by have := (dN b hd).1; omega).trans (eN.get b hb)⟩ T tN
end
end Go.Proofs.Ytacabjkhhejjcaa.Run
