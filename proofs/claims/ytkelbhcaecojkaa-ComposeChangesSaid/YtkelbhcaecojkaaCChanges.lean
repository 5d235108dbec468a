/- The law ComposeChanges of chapter 30, as a run of this session's own interpreter. -/
import Derived.Test.YtkelbhcaecojkaaChgP
import Derived.Test.YtkelbhcaecojkaaTiles
import Derived.Test.YtkelbhcaecojkaaRange
import Derived.Test.YtkelbhcaecojkaaVcH
namespace Go.Proofs.Ytkelbhcaecojkaa.Run
open Go Go.RowKit
set_option linter.unusedVariables false
set_option linter.unusedSimpArgs false

theorem pre_row (A B : Gd) (i n : Nat) : ∀ C, n ≤ C → ∃ r, diffRow A B i C = diffRow A B i n ++ r
  | 0, h => ⟨[], by rw [show n = 0 by omega]; rfl⟩
  | C + 1, h => by
    by_cases e : n = C + 1
    · subst e; exact ⟨[], by simp⟩
    · obtain ⟨r, hr⟩ := pre_row A B i n C (by omega)
      exact ⟨r ++ diffAt A B i C, by rw [diffRow_succ, hr, List.append_assoc]⟩
theorem pre_grid (A B : Gd) (C n : Nat) : ∀ R, n ≤ R → ∃ r, diffG A B C R = diffG A B C n ++ r
  | 0, h => ⟨[], by rw [show n = 0 by omega]; rfl⟩
  | R + 1, h => by
    by_cases e : n = R + 1
    · subst e; exact ⟨[], by simp⟩
    · obtain ⟨r, hr⟩ := pre_grid A B C n R (by omega)
      exact ⟨r ++ diffRow A B R C, by rw [diffG_succ, hr, List.append_assoc]⟩
theorem diff_get {A B : Gd} {C R i j : Nat} (hi : i < R) (hj : j < C) (hne : at2 A i j ≠ at2 B i j) : (diffG A B C R)[(diffG A B C i).length + (diffRow A B i j).length]? = some ⟨i, j, at2 B i j⟩ := by
  obtain ⟨r, h1⟩ := pre_grid A B C (i + 1) R (by omega)
  obtain ⟨s, h2⟩ := pre_row A B i (j + 1) C (by omega)
  have h3 : diffAt A B i j = [⟨i, j, at2 B i j⟩] := by unfold diffAt; rw [if_neg hne]
  rw [h1, diffG_succ, h2, diffRow_succ, h3]
  simp only [List.append_assoc]
  rw [List.getElem?_append_right (by omega), Nat.add_sub_cancel_left, List.getElem?_append_right (Nat.le_refl _), Nat.sub_self]
  rfl
theorem diffRow_len (A B : Gd) (i : Nat) : ∀ n, (diffRow A B i n).length ≤ n
  | 0 => Nat.le_refl _
  | n + 1 => by
    rw [diffRow_succ, List.length_append]
    have := diffRow_len A B i n
    have : (diffAt A B i n).length ≤ 1 := by unfold diffAt; split <;> simp
    omega
theorem diffG_len (A B : Gd) (C : Nat) : ∀ n, (diffG A B C n).length ≤ n * C
  | 0 => by simp [diffG]
  | n + 1 => by
    rw [diffG_succ, List.length_append, Nat.add_mul, Nat.one_mul]
    have := diffG_len A B C n
    have := diffRow_len A B n C
    omega
abbrev posV (i k : Int) : Value := .agg #[.int .i64 i, .int .i64 k]
abbrev Ch.val (a : Ch) : Value := .agg (Enc.enc a).toArray
def itemsU (A B : Gd) (C R : Nat) : List (List Value) := (diffG A B C R).map fun x => [posV x.i x.k, x.c.val]

theorem pt_ld1 {M : Mem} {b : Nat} {c : List Value} {ty : TypeId} {w : Bool} {P : Value → Prop} {o : Nat} {x : Value} (h : M.get b = some (.cells c ty w)) (hx : c[o]? = some x) (p : P x) : ∃ v, opSem (.load none (.const (.pointer (some ⟨b, o, none⟩)))) [] M = some (v, M) ∧ P v := by
  refine ⟨x, ?_, p⟩
  simp only [opSem, ev, Mem.load1, h, hx, Option.map_some]
/-- a row of a grid that lies in an older memory is read -/
theorem rdGe {Mr N : Mem} (e : Ext Mr N) {v : Value} {G : Gd} (h : Gr Mr v G) {i : Int} {L : List Ce} (h0 : 0 ≤ i) (hi : G[i.toNat]? = some L) {j : IntKind} {P : Value → Value → Prop} (q : ∀ p x, Sl Mr x L → P p x) :
    ∃ p, opSem (.addrL 1 (.const v) (.const (.int j i))) [] N = some (p, N) ∧ ∃ x, opSem (.load none (.const p)) [] N = some (x, N) ∧ P p x := by
  obtain ⟨R, h1, h2, rfl⟩ := h
  rw [List.getElem?_map] at hi
  obtain ⟨⟨x, L'⟩, hr, hL⟩ := Option.map_eq_some_iff.1 hi
  cases hL
  exact rd1 (h1.ext e) h0 (a := (⟨x⟩ : Vl)) (by show (R.map _)[_]? = _; rw [List.getElem?_map, hr]; rfl) rfl fun p => q p x (h2 _ (List.mem_of_getElem? hr))

section
variable {Q : Value → Mem → Prop}
abbrev ulV (bt bf : Nat) : Value := .func (.func n_compose_unlike_1) #[] #[.pointer (some ⟨bt, 0, none⟩), .pointer (some ⟨bf, 0, none⟩)]
structure Held (N : Mem) (bt bf : Nat) (tv fv : Value) : Prop where
  t : N.get bt = some (.cells [tv] 30 true)
  f : N.get bf = some (.cells [fv] 30 true)
theorem Held.of {N N' : Mem} {bt bf : Nat} {tv fv : Value} (h : Held N bt bf tv fv) (k : ∀ b ∈ [bt, bf], b < N.size → N'.get b = N.get b) : Held N' bt bf tv fv :=
  ⟨by rw [k bt (by simp) (Mem.lt_of_get h.t)]; exact h.t, by rw [k bf (by simp) (Mem.lt_of_get h.f)]; exact h.f⟩
theorem Held.ext {N N' : Mem} {bt bf : Nat} {tv fv : Value} (e : Ext N N') (h : Held N bt bf tv fv) : Held N' bt bf tv fv := h.of fun b _ hb => e.get b hb

abbrev u0I (n0 bt bf : Nat) (tv fv y : Value) (A B : Gd) (C R : Nat) (I : Nat → List Nat → Mem → Prop) (bs : Nat) : Nat → LS → Prop := fun k s => ∃ (i : Nat) (N : Mem) (Z : List Nat), s = compose_unlike_1_l0_s y (.pointer (some ⟨bf, 0, none⟩)) tv (.int .i64 R) (.int .i64 i) [] N ∧ I (diffG A B C i).length Z N ∧ Held N bt bf tv fv ∧ N.base = bs ∧ n0 ≤ N.size ∧ i ≤ R ∧ k = R - i
abbrev u2I (n0 bt bf : Nat) (tv fv y xr : Value) (A B : Gd) (C R : Nat) (I : Nat → List Nat → Mem → Prop) (bs i : Nat) : Nat → LS → Prop := fun k s => ∃ (j : Nat) (N : Mem) (Z : List Nat), s = compose_unlike_1_l2_s y (.pointer (some ⟨bf, 0, none⟩)) (.int .i64 i) tv (.int .i64 R) (.int .i64 i) xr (.int .i64 C) (.int .i64 j) [] N ∧ I ((diffG A B C i).length + (diffRow A B i j).length) Z N ∧ Held N bt bf tv fv ∧ N.base = bs ∧ n0 ≤ N.size ∧ j ≤ C ∧ k = C - j

set_option maxHeartbeats 2000000 in
theorem unlike_iter {M1 Mr : Mem} {bt bf : Nat} {tv fv : Value} (hH : Held M1 bt bf tv fv) {A B : Gd} {C R : Nat} (hA : Gr Mr fv A) (hB : Gr Mr tv B) (sA : Scr A R C) (sB : Scr B R C) (hR : R ≤ 1024) (hC : C ≤ 1024) :
    Iter funs known (ulV bt bf) [bt, bf] Mr M1 (itemsU A B C R) := by
  intro y I Stop M0 hb e1 Y hr i0
  have h0 := hH.ext e1
  have hsz := e1.size
  have lt1 : bt < M0.size := Mem.lt_of_get h0.t
  have lt2 : bf < M0.size := Mem.lt_of_get h0.f
  have hlen : (itemsU A B C R).length = (diffG A B C R).length := List.length_map _
  have hBl := sB.len
  obtain ⟨ta, tc, rfl⟩ := hB.shape
  rw [hBl] at *
  generalize htv : Value.slice ta R tc = tv at *
  have lenT : ∀ (N : Mem) (P : Value → Prop), P (.int .i64 R) → ∃ x, opSem (.len 1 (.const tv)) [] N = some (x, N) ∧ P x := fun N P p => by rw [← htv]; exact ⟨_, rfl, p⟩
  refine compose_unlike_1_wp hb (pt_ld1 h0.t rfl (lenT _ _ ?_))
  refine ⟨compose_unlike_1_l0_m, u0I M0.size bt bf tv fv y A B C R I M0.base, ⟨R, 0, M0, [], rfl, i0, h0, rfl, Nat.le_refl _, by omega, rfl⟩, ?_⟩
  rintro k s ⟨i, N, Z, rfl, iN, hN, bN, sN, hi, rfl⟩
  refine compose_unlike_1_l0_wp (I := u0I M0.size bt bf tv fv y A B C R I M0.base) (step_lss (wpIf.dec (fun g1 => ?_) (fun g1 => ?_)))
  rotate_left
  · have hi1 : i = R := by omega
    subst hi1
    exact compose_unlike_1_l0_out ⟨bN, sN, Z, .inl (by rw [hlen]; exact iN)⟩
  obtain ⟨K, hK⟩ : ∃ K, B[i]? = some K := ⟨_, List.getElem?_eq_getElem (by rw [sB.len]; omega)⟩
  have hKl := sB.row K (List.mem_of_getElem? hK)
  obtain ⟨L, hL⟩ : ∃ L, A[i]? = some L := ⟨_, List.getElem?_eq_getElem (by rw [sA.len]; omega)⟩
  have hLl := sA.row L (List.mem_of_getElem? hL)
  refine rdGe (hr _ _ _ iN) hB (by omega) (by rw [Int.toNat_natCast]; exact hK) fun _ xr sx => ?_
  refine step_lenS sx ?_
  rw [hKl]
  refine ⟨compose_unlike_1_l2_m, u2I M0.size bt bf tv fv y xr A B C R I M0.base i, ⟨C, 0, N, Z, rfl, iN, hN, bN, sN, by omega, rfl⟩, ?_⟩
  clear iN hN bN sN
  rintro k s ⟨j, N, Z, rfl, iN, hN, bN, sN, hj, rfl⟩
  have hkeep : ∀ {P P' : Mem} {Z : List Nat} {n : Nat}, M0.size ≤ P.size → I n Z P → Ext P P' → I n Z P' := fun {P P' Z n} hs hI e => Y.mono _ _ _ _ hI ⟨e.base, e.size, fun b hb' => by
    rcases hb' with ⟨h1, _⟩ | h
    · exact e.get b (by omega)
    · exact e.get b (Y.own _ _ _ hI b h).2⟩
  refine compose_unlike_1_l2_wp (I := u2I M0.size bt bf tv fv y xr A B C R I M0.base i) (step_lss (wpIf.dec (fun g2 => ?_) (fun g2 => ?_)))
  rotate_left
  · have hjc : j = C := by omega
    subst hjc
    refine compose_unlike_1_l2_out (compose_unlike_1_c1_wp (step_add (by omega) (by omega) ⟨R - (i + 1), by omega, i + 1, N, Z, rfl, ?_, hN, bN, sN, by omega, rfl⟩))
    rw [diffG_succ, List.length_append]; exact iN
  obtain ⟨c, hc⟩ : ∃ c, K[j]? = some c := ⟨_, List.getElem?_eq_getElem (by omega)⟩
  obtain ⟨d, hd⟩ : ∃ d, L[j]? = some d := ⟨_, List.getElem?_eq_getElem (by omega)⟩
  have aB := at2_get hK hc
  have aA := at2_get hL hd
  have kN : N.base ≤ N.size := by omega
  refine rd (sx.ext (hr _ _ _ iN)) (by omega) (by rw [Int.toNat_natCast]; exact hc) fun _ => ⟨rfl, fun b4 N5 hb4 hN5 => ⟨⟨rfl, rfl, by decide⟩, fun N6 hN6 => ?_⟩⟩
  have e5 : Ext N N5 := Ext.push' hN5
  have s5 : N5.size = N.size + 1 := by rw [hN5]; rfl
  have e6 : Ext N N6 := hN6 ▸ e5.set (by omega) (by omega) _
  have s6 : N6.size = N5.size := by rw [hN6]; rfl
  have iN6 := hkeep sN iN e6
  have hN6' := hN.ext e6
  refine pt_ld1 hN6'.f rfl ?_
  refine rdGe (hr _ _ _ iN6) hA (by omega) (by rw [Int.toNat_natCast]; exact hL) fun _ xl sl => ?_
  refine rd (sl.ext (hr _ _ _ iN6)) (by omega) (by rw [Int.toNat_natCast]; exact hd) fun _ => ?_
  refine LGetN.as c.val (by exact Nat.le_refl 14) rfl (step_neqCe (wpIf.dec (fun g3 => ?_) (fun g3 => ?_)))
  rotate_left
  · have hdc : d = c := Classical.byContradiction fun h => g3 h
    refine step_add (by omega) (by omega) ⟨C - (j + 1), by omega, j + 1, N6, Z, rfl, ?_, hN6', e6.base.trans bN, by omega, by omega, rfl⟩
    have : diffAt A B i j = [] := by unfold diffAt; rw [if_pos (by rw [aA, aB, hdc])]
    rw [diffRow_succ, this, List.append_nil]
    exact iN6
  refine ⟨posV i j, rfl, LGetN.as c.val (by exact Nat.le_refl 14) rfl ?_⟩
  have hx : (itemsU A B C R)[(diffG A B C i).length + (diffRow A B i j).length]? = some [posV i j, c.val] := by
    unfold itemsU
    rw [List.getElem?_map, diff_get (by omega) (by omega) (by rw [aA, aB]; exact g3), aB]; rfl
  refine (Y.call _ _ Z N6 hx iN6 (by omega) (by have := e6.base; omega)).mono ?_
  rintro r N' ⟨p1, p2, Z', p3, p4, p5⟩
  have own6 := Y.own _ _ _ iN6
  have nB4 : b4 ∉ Z := fun h => by have := (Y.own _ _ _ iN b4 h).2; omega
  have hP' : Held N' bt bf tv fv := hN6'.of fun b hb hlt => p4 b hlt (fun h => by
    have := (own6 b h).1
    simp only [List.mem_cons, List.not_mem_nil, or_false] at hb
    rcases hb with rfl | rfl <;> omega) (.inr hb)
  have bN' : N'.base = M0.base := by rw [p1, e6.base]; exact bN
  have sN' : M0.size ≤ N'.size := by omega
  refine ⟨fun b hb hlt => ?_, ?_⟩
  · simp only [List.mem_cons, List.not_mem_nil, or_false] at hb
    subst hb
    exact p4 _ hlt nB4 (.inl (by omega))
  have hone : diffAt A B i j = [⟨i, j, at2 B i j⟩] := by unfold diffAt; rw [if_neg (by rw [aA, aB]; exact g3)]
  rcases p5 with ⟨rfl, p5⟩ | ⟨rfl, p5⟩
  · refine ⟨_, rfl, wpIf.ff (step_add (by omega) (by omega) ⟨C - (j + 1), by omega, j + 1, N', Z', rfl, ?_, hP', bN', sN', by omega, rfl⟩)⟩
    rw [diffRow_succ, hone, List.length_append]
    exact p5
  · refine ⟨_, rfl, wpIf.tt ?_⟩
    have done : N'.base = M0.base ∧ M0.size ≤ N'.size ∧ ∃ Z, I (itemsU A B C R).length Z N' ∨ Stop Z N' := ⟨bN', sN', Z', .inr p5⟩
    exact done
end

/-! ### The row of changes -/

section
variable {α : Type} [E : Enc α] {PM : Value → Mem → Prop}
/-- To a row of one's own something is appended: the new one lies behind all. -/
theorem app_new {ty : TypeId} {bytes : Nat} {M₀ M : Mem} (e : Ext M₀ M) (hb : M₀.base ≤ M₀.size) {s x : Value} {A B : List α} (hA : Mine ty M₀ M s A) (hB : Srcs M x B) (hne : B ≠ []) (hn : A.length + B.length ≤ 2 ^ 40) (hby : (A.length + B.length) * bytes ≤ 2 ^ 40)
    (q : ∀ M', M'.base = M.base → M'.size = M.size + 1 → M'.get M.size = some (.cells (flat (A ++ B)) ty true) → (∀ c, c < M.size → blk s ≠ some c → M'.get c = M.get c) → PM (.slice (some ⟨M.size, 0, none⟩) (A.length + B.length) (A.length + B.length)) M') :
    ∃ v M', opSem (.append ty bytes E.k false (.const s) (.const x)) [] M = some (v, M') ∧ PM v M' := by
  obtain ⟨l1, l2, l3⟩ := hB
  have hop : opSem (.append ty bytes E.k false (.const s) (.const x)) [] M = appendV M ty bytes E.k s x := by simp only [opSem, ev, l2, if_true]
  rw [hop]
  have h0 : B.length ≠ 0 := fun h => hne (List.length_eq_zero_iff.1 h)
  have hsrc := l3 hne
  have eb := e.base
  have es := e.size
  rcases hA with ⟨b, sp, rfl, hg, hlt⟩ | ⟨rfl, rfl⟩
  · have hbs := Mem.lt_of_get hg
    cases sp with
    | some k =>
      refine ⟨.slice (some ⟨M.size, 0, none⟩) (A.length + B.length) (A.length + B.length), M.push (.cells (flat A ++ flat B) ty true), ?_, q _ rfl rfl (by rw [Mem.get_push, if_pos rfl]; simp) fun c hc _ => by rw [Mem.get_push, if_neg (by omega)]⟩
      have hl : M.loadN b 0 (A.length * E.k) = some (flat A) := by
        simp only [Mem.loadN, hg, flat_len, Nat.zero_add, Nat.le_refl, if_true, List.drop_zero]
        rw [List.take_of_length_le (by rw [flat_len]; exact Nat.le_refl _)]
      unfold appendV
      simp only [l1, h0, if_false, hsrc, hn, hby, and_self, if_true]
      rw [if_neg (by omega), hl]; rfl
    | none =>
      refine ⟨.slice (some ⟨M.size, 0, none⟩) (A.length + B.length) (A.length + B.length), (M.set b .dead).push (.cells (flat A ++ flat B) ty true), ?_, q _ rfl rfl (by rw [Mem.get_push, Mem.set_size, if_pos rfl]; simp) fun c hc hcb => ?_⟩
      · unfold appendV
        simp only [l1, h0, if_false, hsrc, hn, hby, and_self, if_true, hg]
        rw [if_pos ⟨trivial, trivial, flat_len _, by omega⟩]
      · rw [Mem.get_push, Mem.set_size, if_neg (by omega), Mem.get_set _ _ _ hbs, if_neg]
        rintro rfl
        exact hcb rfl
  · refine ⟨.slice (some ⟨M.size, 0, none⟩) (([] : List α).length + B.length) (([] : List α).length + B.length), M.push (.cells (flat B) ty true), ?_, q _ rfl rfl (by rw [Mem.get_push, if_pos rfl]; rfl) fun c hc _ => by rw [Mem.get_push, if_neg (by omega)]⟩
    simp only [List.length_nil, Nat.zero_add] at hn hby ⊢
    unfold appendV
    simp only [l1, h0, if_false, hsrc, Nat.zero_add, hn, hby, and_self, if_true]
end
end Go.Proofs.Ytkelbhcaecojkaa.Run
namespace Go.Proofs.Ytkelbhcaecojkaa.Run
open Go Go.RowKit
set_option linter.unusedVariables false
set_option linter.unusedSimpArgs false

/-- a row of one's own in a range: the block in which it lies is of the body's own -/
def RowIn (n0 : Nat) (N : Mem) (v : Value) (Z : List Nat) (D : List Ch) : Prop :=
  (D = [] ∧ v = .slice none 0 0 ∧ Z = []) ∨ ∃ b sp, v = .slice (some ⟨b, 0, sp⟩) D.length D.length ∧ N.get b = some (.cells (flat D) 55 true) ∧ Z = [b] ∧ n0 ≤ b
theorem RowIn.mine {n0 : Nat} {M N : Mem} {v : Value} {Z : List Nat} {D : List Ch} (h : RowIn n0 N v Z D) (hM : M.size ≤ n0) : Mine 55 M N v D := by
  rcases h with ⟨h1, h2, _⟩ | ⟨b, sp, rfl, h1, _, h2⟩
  · exact .inr ⟨h1, h2⟩
  · exact .inl ⟨b, sp, rfl, h1, by omega⟩
theorem RowIn.cells {n0 : Nat} {N : Mem} {v : Value} {Z : List Nat} {D : List Ch} (h : RowIn n0 N v Z D) : v.cells = #[v] ∧ notTup v = true := by
  rcases h with ⟨_, rfl, _⟩ | ⟨b, sp, rfl, _⟩ <;> exact ⟨rfl, rfl⟩
theorem item_ch {A B : Gd} {C R n : Nat} {x : List Value} (h : (itemsU A B C R)[n]? = some x) : ∃ c : Ch, x = [posV c.i c.k, c.c.val] ∧ (diffG A B C R)[n]? = some c := by
  unfold itemsU at h
  rw [List.getElem?_map] at h
  obtain ⟨c, hc, rfl⟩ := Option.map_eq_some_iff.1 h
  exact ⟨c, rfl, hc⟩
section
variable {M : Mem} {Q : Value → Mem → Prop}
abbrev cg1I (P : Mem) (R : Nat) (va vb : Value) (b1 : Nat) : Nat → LS → Prop := fun k s => ∃ (i : Nat) (x34 x35 : Value), s = compose_Changes_l1_s va vb (.int .i64 R) (.int .i64 i) x34 x35 b1 (.slice none 0 0) [] P ∧ i ≤ R ∧ k = R - i

set_option maxHeartbeats 2000000 in
theorem changes_W (hM : M.base ≤ M.size) {va vb : Value} {A B : Gd} {C R : Nat} (hA : Gr M va A) (hB : Gr M vb B) (sA : Scr A R C) (sB : Scr B R C) (hR : R ≤ 1024) (hC : C ≤ 1024)
    (q : ∀ M' r, Ext M M' → Mine 55 M M' r (diffG A B C R) → Q (.tuple #[r, .bool true]) M') :
    W funs known (.func (.func n_compose_Changes) #[] #[]) [va, vb] M Q := by
  obtain ⟨aa, ac, hva⟩ := hA.shape
  obtain ⟨ba, bc, hvb⟩ := hB.shape
  rw [sA.len] at hva
  rw [sB.len] at hvb
  subst hva hvb
  refine compose_Changes_wp hM ⟨rfl, fun b1 P hb1 hP => step_len (step_len (s_neF (by omega) (wpIf.ff (step_len ?_))))⟩
  have eP : Ext M P := Ext.push' hP
  have sP : P.size = M.size + 1 := by rw [hP]; rfl
  have kP := eP.ok hM
  have gP1 : P.get b1 = some (.cells [.slice none 0 0] 39 true) := by rw [hP, Mem.get_push, if_pos hb1]
  generalize hva : Value.slice aa R ac = va at *
  generalize hvb : Value.slice ba R bc = vb at *
  refine ⟨compose_Changes_l1_m, cg1I P R va vb b1, ⟨R, 0, _, _, rfl, Nat.zero_le _, rfl⟩, ?_⟩
  rintro k s ⟨i, x34, x35, rfl, hi, rfl⟩
  refine compose_Changes_l1_wp (I := cg1I P R va vb b1) (step_lss (wpIf.dec (fun g1 => ?_) (fun g1 => ?_)))
  · obtain ⟨L, hL⟩ : ∃ L, A[i]? = some L := ⟨_, List.getElem?_eq_getElem (by rw [sA.len]; omega)⟩
    obtain ⟨K, hK⟩ : ∃ K, B[i]? = some K := ⟨_, List.getElem?_eq_getElem (by rw [sB.len]; omega)⟩
    refine rdG (hA.ext eP) (by omega) (by rw [Int.toNat_natCast]; exact hL) fun _ xl sl => step_lenS sl ?_
    refine rdG (hB.ext eP) (by omega) (by rw [Int.toNat_natCast]; exact hK) fun _ xk sk => step_lenS sk ?_
    rw [sA.row L (List.mem_of_getElem? hL), sB.row K (List.mem_of_getElem? hK)]
    exact s_neF (by omega) (wpIf.ff (step_add (by omega) (by omega) ⟨R - (i + 1), by omega, i + 1, x34, x35, rfl, by omega, rfl⟩))
  refine compose_Changes_l1_out (compose_Changes_c0_wp ?_)
  subst hva hvb
  refine compose_unlike_wp kP ⟨rfl, fun bf N2 hbf hN2 => ⟨rfl, fun bt N4 hbt hN4 => ?_⟩⟩
  have f2 : Ext P N2 := Ext.push' hN2
  have t2 : N2.size = P.size + 1 := by rw [hN2]; rfl
  have f4 : Ext N2 N4 := Ext.push' hN4
  have t4 : N4.size = N2.size + 1 := by rw [hN4]; rfl
  have f04 := f2.trans f4
  have eN : Ext M N4 := eP.trans f04
  have hH : Held N4 bt bf (.slice ba R bc) (.slice aa R ac) := ⟨by rw [hN4, Mem.get_push, if_pos hbt], f4.same (by rw [hN2, Mem.get_push, if_pos hbf])⟩
  refine ⟨f04.keep _, ?_⟩
  have hit : Iter funs known (ulV bt bf) [bt, bf] M N4 (itemsU A B C R) := unlike_iter hH hA hB sA sB hR hC
  generalize hD : diffG A B C R = D at q
  have hlen : (itemsU A B C R).length = D.length := by rw [← hD]; exact List.length_map _
  have hDl : D.length ≤ 1048576 := by
    rw [← hD]
    have h1 := diffG_len A B C R
    have h2 : R * C ≤ 1024 * 1024 := Nat.mul_le_mul hR hC
    omega
  refine range_none (X := [bt, bf]) (Mr := M) (M1 := N4) (items := itemsU A B C R) (g := n_compose_unlike_1) (first := #[]) (cap := #[.pointer (some ⟨bt, 0, none⟩), .pointer (some ⟨bf, 0, none⟩)]) (Y0 := [])
    (J := fun n Z K N => ∃ r, K = [⟨b1, [r], 39⟩] ∧ Ext M N ∧ RowIn (N4.size + 2) N r Z (D.take n) ∧ ∀ b ∈ Z, b < N.size)
    (Z := fun _ _ _ _ => False) ?hf ?it ?e1 ?hX ?hY ?len ?Jm ?Zm ?Jr ?Jb ?Zb ?Js ?Zs ?J0 ?body ?done ?zdone
  case hf => rfl
  case it => exact hit
  case e1 => exact Ext.refl _
  case hX =>
    intro b hb
    simp only [List.mem_cons, List.not_mem_nil, or_false] at hb
    refine ⟨by show b < N4.size; omega, ?_⟩
    show b ∉ [b1]
    simp only [List.mem_cons, List.not_mem_nil, or_false]
    omega
  case hY => intro b hb; cases hb
  case len =>
    intro x hx
    obtain ⟨j, hj⟩ := List.mem_iff_getElem?.1 hx
    obtain ⟨c, rfl, _⟩ := item_ch hj
    rfl
  case Jm =>
    rintro n Z K N N' ⟨r, rfl, eNN, hr, hZ⟩ hk
    have sz := eNN.size
    have kg : ∀ b, b < N4.size → b ∉ [bt, bf] → N'.get b = N.get b := fun b hb hne => hk.get b (.inl ⟨hb, hne⟩)
    have hno : ∀ b, b < M.size → b ∉ [bt, bf] := fun b hb => by
      simp only [List.mem_cons, List.not_mem_nil, or_false, not_or]; omega
    refine ⟨r, rfl, ⟨hk.base.trans eNN.base, Nat.le_trans eNN.size hk.size, fun b hb => (kg b (by omega) (hno b hb)).trans (eNN.get b hb)⟩, ?_, fun b hb => Nat.lt_of_lt_of_le (hZ b hb) hk.size⟩
    rcases hr with h | ⟨b, sp, h1, h2, h3, h4⟩
    · exact .inl h
    · exact .inr ⟨b, sp, h1, by rw [hk.get b (.inr (by rw [h3]; simp))]; exact h2, h3, h4⟩
  case Zm => exact fun _ _ _ _ _ h _ => h.elim
  case Jr => rintro i Z K N ⟨r, _, h, _⟩; exact h
  case Jb =>
    rintro i Z K N ⟨r, _, _, hr, hZ⟩ b hb
    refine ⟨?_, hZ b hb⟩
    rcases hr with ⟨_, _, h3⟩ | ⟨b', sp, _, _, h3, h4⟩
    · rw [h3] at hb; cases hb
    · rw [h3, List.mem_singleton] at hb; subst hb; exact h4
  case Zb => exact fun _ _ _ _ h => h.elim
  case Js => rintro i Z K N ⟨r, rfl, _⟩; rfl
  case Zs => exact fun _ _ _ _ h => h.elim
  case J0 => exact ⟨_, rfl, eN, .inl ⟨rfl, rfl, rfl⟩, by simp⟩
  case body =>
    rintro n x Z K N hx ⟨r, rfl, eNN, hr, hZ⟩ bN zN kN
    obtain ⟨c, rfl, hc⟩ := item_ch hx
    rw [hD] at hc
    have zN : N4.size + 2 ≤ N.size := zN
    have hstep : D.take (n + 1) = D.take n ++ [c] := by
      obtain ⟨h1, h2⟩ := List.getElem?_eq_some_iff.1 hc
      rw [List.take_succ_eq_append_getElem h1, h2]
    refine compose_Changes_a3_body ⟨rfl, fun c1 N2 hc1 hN2 => ⟨⟨rfl, rfl, by decide⟩, fun N3 hN3 => ⟨rfl, fun c4 N5 hc4 hN5 => ⟨⟨rfl, rfl, by decide⟩, fun N6 hN6 => ⟨rfl, ?_, fun N7 hag => ?_⟩⟩⟩⟩⟩
    · have e2 : Ext N N2 := Ext.push' hN2
      have w2 : N2.size = N.size + 1 := by rw [hN2]; rfl
      have e3 : Ext N N3 := hN3 ▸ e2.set (by omega) (by omega) _
      have w3 : N3.size = N2.size := by rw [hN3]; rfl
      have e5 : Ext N N5 := e3.trans (Ext.push' hN5)
      have w5 : N5.size = N3.size + 1 := by rw [hN5]; rfl
      have e6 : Ext N N6 := hN6 ▸ e5.set (by omega) (by omega) _
      exact e6.get _ (by show N4.size + 1 < N.size; omega)
    have e2 : Ext N N2 := Ext.push' hN2
    have w2 : N2.size = N.size + 1 := by rw [hN2]; rfl
    have e3 : Ext N N3 := hN3 ▸ e2.set (by omega) (by omega) _
    have w3 : N3.size = N2.size := by rw [hN3]; rfl
    have e5 : Ext N N5 := e3.trans (Ext.push' hN5)
    have w5 : N5.size = N3.size + 1 := by rw [hN5]; rfl
    have e6 : Ext N N6 := hN6 ▸ e5.set (by omega) (by omega) _
    have w6 : N6.size = N5.size := by rw [hN6]; rfl
    have hag : Agree (N4.size + 1) N6 N7 := hag
    have w7 := hag.size
    have x7 : ∀ b, b < N.size → b ≠ N4.size + 1 → N7.get b = N.get b := fun b hb hne => (hag.get b hne).trans (e6.get b hb)
    have b7 : N7.base = N.base := hag.base.trans e6.base
    have eM7 : Ext M N7 := ⟨b7.trans eNN.base, by have := eNN.size; omega, fun b hb => (x7 b (by have := eNN.size; omega) (by omega)).trans (eNN.get b hb)⟩
    have hr7 : RowIn (N4.size + 2) N7 r Z (D.take n) := by
      rcases hr with h | ⟨b, sp, h1, h2, h3, h4⟩
      · exact .inl h
      · exact .inr ⟨b, sp, h1, by rw [x7 b (hZ b (by rw [h3]; simp)) (by omega)]; exact h2, h3, h4⟩
    have hblk : ∀ b, blk r = some b → b ∈ Z ∧ N4.size + 2 ≤ b ∧ b < N.size := fun b hb => by
      rcases hr with ⟨_, rfl, _⟩ | ⟨b', sp, rfl, h2, h3, h4⟩
      · cases hb
      · simp only [blk] at hb; cases hb
        exact ⟨by rw [h3]; simp, h4, hZ _ (by rw [h3]; simp)⟩
    have hrm : Mine 55 M N7 r (D.take n) := hr7.mine (by have := eN.size; omega)
    refine LGetN.as (posV c.i c.k) (by exact Nat.le_refl 2) rfl (LGetN.as c.c.val (by exact Nat.le_refl 14) rfl ⟨c.val, rfl, ?_⟩)
    refine step_lit [c] rfl rfl fun v11 N12 e12 n12 => ⟨e12.keep _, ?_⟩
    have w12 := e12.size
    refine app_new (eM7.trans e12) hM (hrm.ext e12) n12.sl.srcs (by simp) (by simp only [List.length_take, List.length_singleton]; omega) (by simp only [List.length_take, List.length_singleton]; omega) fun N14 b14 w14 g14 k14 => ?_
    have keep14 : ∀ b, b < N7.size → blk r ≠ some b → N14.get b = N7.get b := fun b hb hne => (k14 b (by omega) hne).trans (e12.get b hb)
    refine ⟨fun b hb hlt => ?_, _, rfl, rfl, by decide, fun N15 hN15 => ?_⟩
    · refine k14 b hlt fun he => ?_
      have := hblk b he
      simp only [List.mem_cons, List.not_mem_nil, or_false] at hb
      omega
    have w15 : N15.size = N14.size := by rw [hN15]; rfl
    have lt1 : b1 < N14.size := by have := eN.size; omega
    have x15 : ∀ b, b < N.size → b ≠ N4.size + 1 → b ≠ b1 → blk r ≠ some b → N15.get b = N.get b := fun b hb hne h1 hr' => by
      rw [hN15, Mem.get_set _ _ _ lt1, if_neg h1, keep14 b (by omega) hr']; exact x7 b hb hne
    have b15 : N15.base = N.base := by rw [hN15]; show N14.base = _; rw [b14, e12.base]; exact b7
    have g15 : N15.get N12.size = some (.cells (flat (D.take n ++ [c])) 55 true) := by
      rw [hN15, Mem.get_set _ _ _ lt1, if_neg (by omega)]; exact g14
    have hlow : ∀ b, b < M.size → blk r ≠ some b := fun b hb he => by have := hblk b he; have := eN.size; omega
    refine ⟨?_, ⟨b15, by show N.size ≤ N15.size; omega, fun b hb hno => ?_⟩, [N12.size], fun b hb => ?_, .inl ⟨rfl, _, rfl, ⟨b15.trans eNN.base, by show M.size ≤ N15.size; have := eNN.size; omega, fun b hb => (x15 b (by have := eNN.size; omega) (by omega) (by omega) (hlow b hb)).trans (eNN.get b hb)⟩, .inr ⟨N12.size, none, ?_, by rw [hstep]; exact g15, rfl, by omega⟩, fun b hb => ?_⟩⟩
    · show N15.get (N4.size + 1) = N7.get (N4.size + 1)
      rw [hN15, Mem.get_set _ _ _ lt1, if_neg (by omega)]
      exact keep14 _ (by omega) fun he => by have := hblk _ he; omega
    · have hno : ¬ (b = N4.size + 1 ∨ b ∈ [b1] ∨ b ∈ ([] : List Nat) ∨ b ∈ Z) := hno
      simp only [List.mem_cons, List.not_mem_nil, or_false, not_or] at hno
      exact x15 b hb hno.1 hno.2.1 fun he => hno.2.2.2 (hblk b he).1
    · rw [List.mem_singleton] at hb; subst hb
      exact ⟨.inr (by show N.size ≤ N12.size; omega), by show N12.size < N15.size; omega⟩
    · rw [hstep, List.length_append]
    · rw [List.mem_singleton] at hb; subst hb
      show N12.size < N15.size
      omega
  case done =>
    rintro Z K N ⟨r, rfl, eNN, hr, hZ⟩ bN zN gd
    rw [hlen, List.take_length] at hr
    have zN : N4.size + 2 ≤ N.size := zN
    obtain ⟨c1, c2⟩ := hr.cells
    refine compose_Changes_a3_out (compose_Changes_c2_wp ⟨r, c1, c2, by decide, fun M1 hM1 => ?_⟩)
    have lt1 : b1 < N.size := by have := eN.size; omega
    have e1 : Ext M M1 := hM1 ▸ eNN.set (by omega) lt1 _
    have w1 : M1.size = N.size := by rw [hM1]; rfl
    have x1 : ∀ b, b ≠ b1 → M1.get b = N.get b := fun b hb => by rw [hM1, Mem.get_set _ _ _ lt1, if_neg hb]
    have gdd : M1.get N4.size = some .dblk := by rw [x1 _ (by omega)]; exact gd
    obtain ⟨N', k1, k2, k3, k4⟩ := kill_ok [N4.size] M1 (fun d hd => by
      rw [List.mem_singleton] at hd; subst hd
      refine ⟨?_, gdd⟩
      have := e1.base
      have := eN.size
      omega) (by simp)
    refine (retK_ds ⟨N', k1, ?_⟩).2
    have eN' : Ext M N' := ⟨k2.trans e1.base, by have := e1.size; omega, fun b hb => (k4 b (by simp only [List.mem_singleton]; have := eN.size; omega)).trans (e1.get b hb)⟩
    refine q N' r eN' ?_
    rcases hr with ⟨h1, h2, _⟩ | ⟨b, sp, rfl, h1, _, h2⟩
    · exact .inr ⟨h1, h2⟩
    · refine .inl ⟨b, sp, rfl, ?_, by have := eN.size; omega⟩
      rw [k4 b (by simp only [List.mem_singleton]; omega), x1 b (by omega)]
      exact h1
  case zdone => exact fun _ _ _ _ h => h.elim
end
end Go.Proofs.Ytkelbhcaecojkaa.Run
namespace Go.Proofs.Ytkelbhcaecojkaa.Run
open Go Go.RowKit
set_option linter.unusedVariables false
set_option linter.unusedSimpArgs false

/-! ### Maps of places to cells -/

abbrev Pl := Int × Int
abbrev plV (p : Pl) : Value := .agg #[.int .i64 p.1, .int .i64 p.2]
theorem eqPl (a b : Pl) : eqV true [0, 0] (plV a) (plV b) = some (decide (a = b)) := by
  obtain ⟨a1, a2⟩ := a
  obtain ⟨b1, b2⟩ := b
  show eqCells [0, 0] _ _ = _
  refine Eq.trans (eqK_int (eqK_int eqK_nil)) ?_
  congr 1
  simp only [Prod.mk.injEq, Bool.and_true]
  rw [Bool.eq_iff_iff]
  simp only [Bool.and_eq_true, decide_eq_true_eq]
abbrev Tb := List (Pl × Ce)
def Tb.get : Tb → Pl → Option Ce
  | [], _ => none
  | (q, d) :: T, p => if p = q then some d else Tb.get T p
def Tb.upd : Tb → Pl → Ce → Tb
  | [], p, c => [(p, c)]
  | (q, d) :: T, p, c => if p = q then (p, c) :: T else (q, d) :: Tb.upd T p c
theorem Tb.get_upd : ∀ (T : Tb) (p : Pl) (c : Ce) (r : Pl), (T.upd p c).get r = if p = r then some c else T.get r
  | [], p, c, r => by
    show (if r = p then some c else none) = _
    by_cases h : p = r
    · rw [if_pos h, if_pos h.symm]
    · rw [if_neg h, if_neg (fun e => h e.symm)]; rfl
  | (q, d) :: T, p, c, r => by
    unfold Tb.upd
    by_cases h : p = q
    · rw [if_pos h]
      show (if r = p then some c else Tb.get T r) = (if p = r then some c else if r = q then some d else Tb.get T r)
      by_cases hr : p = r
      · rw [if_pos hr, if_pos hr.symm]
      · rw [if_neg hr, if_neg (fun e => hr e.symm), if_neg (fun e => hr (h.trans e.symm))]
    · rw [if_neg h]
      show (if r = q then some d else Tb.get (Tb.upd T p c) r) = (if p = r then some c else if r = q then some d else Tb.get T r)
      rw [Tb.get_upd T]
      by_cases hr : r = q
      · rw [if_pos hr, if_neg (fun e => h (e.trans hr)), if_pos hr]
      · rw [if_neg hr, if_neg hr]
/-- entries that hold a table -/
inductive Ents : List MapEntry → Tb → Prop
  | nil : Ents [] []
  | cons {e : MapEntry} {es : List MapEntry} {p : Pl} {c : Ce} {T : Tb} (hk : e.key = plV p) (hv : e.val = c.val) (h : Ents es T) : Ents (e :: es) ((p, c) :: T)
theorem Ents.find {es : List MapEntry} {T : Tb} (h : Ents es T) (p : Pl) : ∀ i, ∃ f, findK true [0, 0] (plV p) es i = some f ∧ f.map (·.2) = (T.get p).map (·.val) ∧
    ∀ (c : Ce) (b : Nat), (f = none → Ents (es ++ [{ key := plV p, val := c.val, born := b }]) (T.upd p c)) ∧ (∀ x v, f = some (x, v) → ∃ j, x = i + j ∧ Ents (es.modify j fun e => { e with key := plV p, val := c.val }) (T.upd p c)) := by
  induction h with
  | nil => exact fun i => ⟨none, rfl, rfl, fun c b => ⟨fun _ => .cons rfl rfl .nil, fun x v h => (by cases h)⟩⟩
  | @cons e es q d T hk hv h ih =>
    intro i
    by_cases hp : p = q
    · refine ⟨some (i, e.val), ?_, ?_, fun c b => ⟨fun h => (by cases h), fun x v hx => ?_⟩⟩
      · unfold findK
        rw [hk, eqPl, decide_eq_true hp]
      · show some e.val = ((if p = q then some d else Tb.get T p).map _)
        rw [if_pos hp, hv]; rfl
      · cases hx
        refine ⟨0, rfl, ?_⟩
        unfold Tb.upd
        rw [if_pos hp]
        exact .cons rfl rfl h
    · obtain ⟨f, h1, h2, h3⟩ := ih (i + 1)
      refine ⟨f, ?_, ?_, fun c b => ⟨fun hf => ?_, fun x v hx => ?_⟩⟩
      · unfold findK
        rw [hk, eqPl, decide_eq_false hp]
        exact h1
      · rw [h2]
        show _ = ((if p = q then some d else Tb.get T p).map _)
        rw [if_neg hp]
      · unfold Tb.upd
        rw [if_neg hp]
        exact .cons hk hv ((h3 c b).1 hf)
      · obtain ⟨j, rfl, hj⟩ := (h3 c b).2 x v hx
        refine ⟨j + 1, by omega, ?_⟩
        unfold Tb.upd
        rw [if_neg hp]
        exact .cons hk hv hj
def MapIs (N : Mem) (m : Nat) (T : Tb) : Prop := ∃ es clock, N.get m = some (.map es clock) ∧ Ents es T
theorem MapIs.same {N N' : Mem} {m : Nat} {T : Tb} (h : MapIs N m T) (e : N'.get m = N.get m) : MapIs N' m T := by
  obtain ⟨es, c, h1, h2⟩ := h
  exact ⟨es, c, e.trans h1, h2⟩
theorem MapIs.lt {N : Mem} {m : Nat} {T : Tb} (h : MapIs N m T) : m < N.size := by
  obtain ⟨es, c, h1, _⟩ := h
  exact Mem.lt_of_get h1
theorem step_put {N : Mem} {m : Nat} {T : Tb} (h : MapIs N m T) (hb : N.base ≤ m) {p : Pl} {c : Ce} {PM : Value → Mem → Prop} (q : ∀ v o, MapIs (N.set m o) m (T.upd p c) → PM v (N.set m o)) :
    ∃ v N', opSem (.mapUpd true [0, 0] (.const (.map (some m))) (.const (plV p)) (.const c.val)) [] N = some (v, N') ∧ PM v N' := by
  have hm := h.lt
  obtain ⟨es, clock, h1, h2⟩ := h
  obtain ⟨f, h3, _, h4⟩ := h2.find p 0
  refine ⟨undef, N.set m (mapPut es clock (plV p) c.val f), ?_, q _ _ ?_⟩
  · show (match N.get m with
      | some (.map es clock) => if N.base ≤ m ∧ keyOk true [0, 0] (plV p) = true then (findK true [0, 0] (plV p) es 0).map fun f => (undef, N.set m (mapPut es clock (plV p) c.val f)) else none
      | _ => none) = _
    rw [h1]
    simp only
    rw [if_pos ⟨hb, rfl⟩, h3]; rfl
  · obtain ⟨k1, k2⟩ := h4 c clock
    cases f with
    | none => exact ⟨_, clock + 1, by rw [Mem.get_set _ _ _ hm, if_pos rfl]; rfl, k1 rfl⟩
    | some y =>
      obtain ⟨x, v⟩ := y
      obtain ⟨j, hj, k3⟩ := k2 x v rfl
      rw [Nat.zero_add] at hj
      subst hj
      exact ⟨_, clock, by rw [Mem.get_set _ _ _ hm, if_pos rfl]; rfl, k3⟩
theorem step_look {N : Mem} {m : Nat} {T : Tb} (h : MapIs N m T) {p : Pl} {z : Value} {P : Value → Prop} (q : P (match T.get p with | some c => .tuple #[c.val, .bool true] | none => .tuple #[z, .bool false])) :
    ∃ v, opSem (.lookup z true true [0, 0] (.const (.map (some m))) (.const (plV p))) [] N = some (v, N) ∧ P v := by
  obtain ⟨es, clock, h1, h2⟩ := h
  obtain ⟨f, h3, h4, _⟩ := h2.find p 0
  refine ⟨_, ?_, q⟩
  have hk : ¬ keyOk true [0, 0] (plV p) = false := by rw [show keyOk true [0, 0] (plV p) = true from rfl]; simp
  simp only [opSem, ev, h1, if_neg hk, h3, Option.map_some]
  cases f with
  | none =>
    cases hg : T.get p with
    | none => rfl
    | some c => rw [hg] at h4; cases h4
  | some y =>
    cases hg : T.get p with
    | none => rw [hg] at h4; cases h4
    | some c =>
      rw [hg] at h4
      have h5 : y.2 = c.val := by simpa using h4
      obtain ⟨x, v⟩ := y
      simp only at h5
      subst h5
      rfl

/-! ### Each cell -/

def eachF (F : Nat → Nat → Ce → Ce) (G : Gd) : Gd := G.mapIdx fun i L => L.mapIdx fun k c => F i k c
theorem each_take {F : Nat → Nat → Ce → Ce} {G : Gd} {i : Nat} {L : List Ce} (hL : G[i]? = some L) : eachF F (G.take (i + 1)) = eachF F (G.take i) ++ [L.mapIdx fun k c => F i k c] := by
  obtain ⟨h1, h2⟩ := List.getElem?_eq_some_iff.1 hL
  unfold eachF
  rw [List.take_succ_eq_append_getElem h1, h2, List.mapIdx_append]
  congr 1
  simp only [List.mapIdx_cons, List.mapIdx_nil, Nat.zero_add, List.length_take]
  rw [Nat.min_eq_left (by omega)]
theorem mapIdx_step {F : Nat → Ce → Ce} {L : List Ce} {j : Nat} {c : Ce} (hc : L[j]? = some c) : (((L.take j).mapIdx F) ++ L.drop j).set j (F j c) = ((L.take (j + 1)).mapIdx F) ++ L.drop (j + 1) := by
  obtain ⟨h1, h2⟩ := List.getElem?_eq_some_iff.1 hc
  rw [List.take_succ_eq_append_getElem h1, h2, List.mapIdx_append, List.drop_eq_getElem_cons h1, h2, List.set_append_right _ _ (by simp; omega)]
  simp only [List.length_mapIdx, List.length_take, List.mapIdx_cons, List.mapIdx_nil, Nat.zero_add]
  rw [Nat.min_eq_left (by omega), Nat.sub_self]
  simp

section
variable {M : Mem} {Q : Value → Mem → Prop}
abbrev eaI (M : Mem) (F : Nat → Nat → Ce → Ce) (G : Gd) (f v : Value) : Nat → LS → Prop := fun k s => ∃ (i : Nat) (M' : Mem) (r : Value), s = compose_each_l1_s f r v (.int .i64 G.length) (.int .i64 i) [] M' ∧ Ext M M' ∧ GrN M M' r (eachF F (G.take i)) ∧ i ≤ G.length ∧ k = G.length - i
abbrev ecI (M' : Mem) (F : Nat → Ce → Ce) (L : List Ce) (f r x v : Value) (i n : Nat) : Nat → LS → Prop := fun k s => ∃ (j : Nat) (N : Mem), s = compose_each_l4_s f r (.int .i64 i) x v (.int .i64 n) (.int .i64 i) (.int .i64 L.length) (.int .i64 j) [] N ∧ Ext M' N ∧ New 53 M' N x ((L.take j).mapIdx F ++ L.drop j) ∧ j ≤ L.length ∧ k = L.length - j
theorem each_W (hM : M.base ≤ M.size) {f : Value} {F : Nat → Nat → Ce → Ce} (hf : ∀ (N : Mem) (i j : Nat) (c : Ce) (R : Value → Mem → Prop), Ext M N → (∀ N', Ext N N' → R (F i j c).val N') → W funs known f [.agg #[.int .i64 i, .int .i64 j], c.val] N R) {v : Value} {G : Gd} (h : Gr M v G) (hn : G.length ≤ 2 ^ 19) (hl : ∀ L ∈ G, L.length ≤ 2 ^ 30) (q : ∀ M' r, Ext M M' → GrN M M' r (eachF F G) → Q r M') : W funs known (.func (.func n_compose_each) #[] #[]) [v, f] M Q := by
  obtain ⟨ad, cap, hv⟩ := h.shape
  subst hv
  refine compose_each_wp hM (step_len ?_)
  generalize hv : Value.slice ad G.length cap = v at *
  refine ⟨compose_each_l1_m, eaI M F G f v, ⟨G.length, 0, M, .slice none 0 0, rfl, Ext.refl _, ⟨[], .inr ⟨rfl, rfl⟩, by simp, rfl⟩, Nat.zero_le _, rfl⟩, ?_⟩
  rintro k s ⟨i, M', r, rfl, eM, gM0, hi, rfl⟩
  have gM : GrN M M' r (eachF F (G.take i)) := gM0
  clear gM0
  refine compose_each_l1_wp (I := eaI M F G f v) (step_lss (wpIf.dec (fun g1 => ?_) (fun g1 => ?_)))
  rotate_left
  · have : i = G.length := by omega
    subst this
    rw [List.take_length] at gM
    exact blockK.hit (compose_each_c0_wp (q M' r eM gM))
  obtain ⟨L, hL⟩ : ∃ L, G[i]? = some L := ⟨_, List.getElem?_eq_getElem (by omega)⟩
  have hLl := hl L (List.mem_of_getElem? hL)
  have kM := eM.ok hM
  refine rdG (h.ext eM) (by omega) (by rw [Int.toNat_natCast]; exact hL) fun _ x sx => ?_
  refine break_W (A := []) kM sx (Sl.nil _) hLl (by simp) fun M5 r4 e5 n5 => ?_
  have n5 : New 53 M' M5 r4 L := n5
  refine step_lenS n5.sl ?_
  refine ⟨compose_each_l4_m, ecI M' (F i) L f r r4 v i G.length, ⟨L.length, 0, M5, rfl, e5, by simpa using n5, Nat.zero_le _, rfl⟩, ?_⟩
  clear n5 e5
  rintro k s ⟨j, N, rfl, eN, nN, hj, rfl⟩
  refine compose_each_l4_wp (I := ecI M' (F i) L f r r4 v i G.length) (step_lss (wpIf.dec (fun g2 => ?_) (fun g2 => ?_)))
  · obtain ⟨c, hc⟩ : ∃ c, L[j]? = some c := ⟨_, List.getElem?_eq_getElem (by omega)⟩
    have hcj : ((L.take j).mapIdx (F i) ++ L.drop j)[j]? = some c := by
      rw [List.getElem?_append_right (by simp; omega)]
      simp only [List.length_mapIdx, List.length_take, List.getElem?_drop]
      rw [show j + (j - min j L.length) = j by omega]; exact hc
    refine ⟨.agg #[.int .i64 (i : Int), .int .i64 (j : Int)], rfl, ?_⟩
    refine rd nN.sl (by omega) (by rw [Int.toNat_natCast]; exact hcj) fun _ => ?_
    refine hf N i j c _ (eM.trans eN) fun M6 e6 => ?_
    refine wr (eN.trans e6) kM (nN.ext e6) (F i j c) (i := j) hcj rfl fun _ M9 e9 n9 => step_add (by omega) (by omega) ⟨L.length - (j + 1), by omega, j + 1, M9, rfl, e9, ?_, by omega, rfl⟩
    rw [← mapIdx_step (F := F i) hc]; exact n9
  · have : j = L.length := by omega
    subst this
    rw [List.take_length, List.drop_length, List.append_nil] at nN
    obtain ⟨l, M6, hl6, e6, v7, M8, ha, e8, g8, _⟩ := appG (bytes := 24) (z := .slice none 0 0) (eM.trans eN) hM (gM.ext eN) (.inl (New.old eM nN)) (by unfold eachF; simp; omega) (by decide)
    refine blockK.hit (compose_each_c3_wp (ar := none) ⟨l, M6, hl6, v7, M8, ha, blockK.n (seqK.n (compose_each_c2_wp (step_add (by omega) (by omega) ⟨G.length - (i + 1), by omega, i + 1, M8, v7, rfl, e8, ?_, by omega, rfl⟩)))⟩)
    rw [each_take hL]; exact g8

/-! ### Apply -/

theorem apply1_W (hM : M.base ≤ M.size) {b m : Nat} {ty : TypeId} {w : Bool} (hg : M.get b = some (.cells [.map (some m)] ty w)) {T : Tb} (hm : MapIs M m T) {i k : Int} {c : Ce} (q : ∀ M', Ext M M' → Q ((T.get (i, k)).getD c).val M') : W funs known (.func (.func n_compose_Apply_1) #[] #[.pointer (some ⟨b, 0, none⟩)]) [.agg #[.int .i64 i, .int .i64 k], c.val] M Q := by
  refine compose_Apply_1_wp hM ⟨rfl, fun b1 M2 hb1 hM2 => ⟨rfl, fun b3 M4 hb3 hM4 => ⟨rfl, fun b5 M6 hb5 hM6 => ?_⟩⟩⟩
  have e6 : Ext M M6 := ((Ext.push' hM2).trans (Ext.push' hM4)).trans (Ext.push' hM6)
  have s2 : M2.size = M.size + 1 := by rw [hM2]; rfl
  have s4 : M4.size = M2.size + 1 := by rw [hM4]; rfl
  have s6 : M6.size = M4.size + 1 := by rw [hM6]; rfl
  have mlt := hm.lt
  refine pt_ld1 (e6.same hg) rfl (step_look (hm.same (e6.get _ mlt)) (p := (i, k)) ?_)
  cases hT : T.get (i, k) with
  | none =>
    rw [hT] at q
    refine ⟨_, rfl, _, rfl, rfl, fun b11 M12 hb11 hM12 => ⟨⟨rfl, rfl, by decide⟩, fun M13 hM13 => wpIf.ff ⟨⟨rfl, rfl, by decide⟩, fun M17 hM17 => q M17 ?_⟩⟩⟩
    have s12 : M12.size = M6.size + 1 := by rw [hM12]; rfl
    have e12 := e6.trans (Ext.push' hM12)
    have e13 : Ext M M13 := hM13 ▸ e12.set (by omega) (by omega) _
    have s13 : M13.size = M12.size := by rw [hM13]; rfl
    exact hM17 ▸ e13.set (by omega) (by omega) _
  | some d =>
    rw [hT] at q
    refine ⟨_, rfl, _, rfl, rfl, fun b11 M12 hb11 hM12 => ⟨⟨rfl, rfl, by decide⟩, fun M13 hM13 => wpIf.tt (LGetN.as d.val (by exact Nat.le_refl 14) rfl ⟨⟨rfl, rfl, by decide⟩, fun M15 hM15 => LGetN.as d.val (by exact Nat.le_refl 14) rfl (q M15 ?_)⟩)⟩⟩
    have s12 : M12.size = M6.size + 1 := by rw [hM12]; rfl
    have e12 := e6.trans (Ext.push' hM12)
    have e13 : Ext M M13 := hM13 ▸ e12.set (by omega) (by omega) _
    have s13 : M13.size = M12.size := by rw [hM13]; rfl
    exact hM15 ▸ e13.set (by omega) (by omega) _

def tabF (l : List Ch) : Tb := l.foldl (fun T x => T.upd (x.i, x.k) x.c) []
theorem tab_get (l : List Ch) (i k : Nat) : ∀ T : Tb, (l.foldl (fun (T : Tb) x => T.upd (x.i, x.k) x.c) T).get ((i : Int), (k : Int)) = l.foldl (fun (o : Option Ce) (x : Ch) => if x.i = (i : Int) ∧ x.k = (k : Int) then some x.c else o) (T.get ((i : Int), (k : Int))) := by
  induction l with
  | nil => intro T; rfl
  | cons x l ih =>
    intro T
    rw [List.foldl_cons, List.foldl_cons, ih, Tb.get_upd]
    congr 1
    by_cases h : x.i = (i : Int) ∧ x.k = (k : Int)
    · rw [if_pos h, if_pos (by rw [h.1, h.2])]
    · rw [if_neg h, if_neg (fun e => h ⟨(congrArg Prod.fst e), (congrArg Prod.snd e)⟩)]
theorem tab_look (l : List Ch) (i k : Nat) : (tabF l).get ((i : Int), (k : Int)) = lookF l i k := tab_get l i k []

abbrev apI (M P : Mem) (D : List Ch) (v lv : Value) (b3 m : Nat) : Nat → LS → Prop := fun k s => ∃ (i : Nat) (N : Mem), s = compose_Apply_l1_s v lv (.int .i64 D.length) (.int .i64 i) b3 (.map (some m)) [] N ∧ Ext M N ∧ P.size ≤ N.size ∧ N.get b3 = P.get b3 ∧ MapIs N m (tabF (D.take i)) ∧ i ≤ D.length ∧ k = D.length - i
theorem apply_W (hM : M.base ≤ M.size) {v lv : Value} {G : Gd} {D : List Ch} (h : Gr M v G) (hD : Sl M lv D) (hn : G.length ≤ 2 ^ 19) (hl : ∀ L ∈ G, L.length ≤ 2 ^ 30) (hDl : D.length ≤ 2 ^ 40) (q : ∀ M' r, Ext M M' → GrN M M' r (applyF G D) → Q r M') : W funs known (.func (.func n_compose_Apply) #[] #[]) [v, lv] M Q := by
  obtain ⟨ga, gc, hv⟩ := h.shape
  obtain ⟨da, dc, hlv⟩ := hD.shape
  subst hv hlv
  refine compose_Apply_wp hM ⟨.map (some M.size), M.push (.map [] 0), rfl, rfl, fun b3 M4 hb3 hM4 => ⟨.map (some M.size), rfl, rfl, by decide, fun M5 hM5 => step_len ?_⟩⟩
  generalize hM2 : M.push (.map [] 0) = M2 at hb3 hM4
  have e2 : Ext M M2 := Ext.push' hM2.symm
  have s2 : M2.size = M.size + 1 := by rw [← hM2]; rfl
  have g2 : M2.get M.size = some (.map [] 0) := by rw [← hM2, Mem.get_push, if_pos rfl]
  have e4 : Ext M2 M4 := Ext.push' hM4
  have s4 : M4.size = M2.size + 1 := by rw [hM4]; rfl
  have e5 : Ext M M5 := hM5 ▸ (e2.trans e4).set (by omega) (by omega) _
  have s5 : M5.size = M4.size := by rw [hM5]; rfl
  have g5 : M5.get b3 = some (.cells [.map (some M.size)] 99 true) := by rw [hM5, Mem.get_set _ _ _ (by omega), if_pos rfl]
  have m5 : MapIs M5 M.size [] := ⟨[], 0, by rw [hM5, Mem.get_set _ _ _ (by omega), if_neg (by omega)]; exact e4.same g2, .nil⟩
  generalize hv : Value.slice ga G.length gc = v at *
  generalize hlv : Value.slice da D.length dc = lv at *
  refine ⟨compose_Apply_l1_m, apI M M5 D v lv b3 M.size, ⟨D.length, 0, M5, rfl, e5, Nat.le_refl _, rfl, m5, Nat.zero_le _, rfl⟩, ?_⟩
  rintro k s ⟨i, N, rfl, eN, sN, gN, mN, hi, rfl⟩
  refine compose_Apply_l1_wp (I := apI M M5 D v lv b3 M.size) (step_lss (wpIf.dec (fun g1 => ?_) (fun g1 => ?_)))
  · obtain ⟨c, hc⟩ : ∃ c, D[i]? = some c := ⟨_, List.getElem?_eq_getElem (by omega)⟩
    refine rd (hD.ext eN) (by omega) (by rw [Int.toNat_natCast]; exact hc) fun _ => ⟨rfl, fun b4 N5 hb4 hN5 => ⟨⟨rfl, rfl, by decide⟩, fun N6 hN6 => ?_⟩⟩
    have f5 : Ext N N5 := Ext.push' hN5
    have t5 : N5.size = N.size + 1 := by rw [hN5]; rfl
    have f6 : Ext N N6 := hN6 ▸ f5.set (by omega) (by omega) _
    have t6 : N6.size = N5.size := by rw [hN6]; rfl
    have mlt := mN.lt
    refine LGetN.as (plV (c.i, c.k)) (by exact Nat.le_of_ble_eq_true rfl) rfl (LGetN.as c.c.val (by exact Nat.le_refl 16) rfl ?_)
    refine step_put (mN.same (f6.get _ mlt)) (by have := f6.base; have := eN.base; omega) fun u o m10 => ⟨fun b hb hlt => ?_, step_add (by omega) (by omega) ⟨D.length - (i + 1), by omega, i + 1, _, rfl, ?_, ?_, ?_, ?_, by omega, rfl⟩⟩
    · rw [Mem.get_set _ _ _ (by omega), if_neg]
      simp only [List.mem_cons, List.not_mem_nil, or_false] at hb
      omega
    · exact (eN.trans f6).set (by omega) (by omega) _
    · show M5.size ≤ N6.size; omega
    · rw [Mem.get_set _ _ _ (by omega), if_neg (by omega), f6.get _ (by omega)]; exact gN
    · have : tabF (D.take (i + 1)) = (tabF (D.take i)).upd (c.i, c.k) c.c := by
        obtain ⟨h1, h2⟩ := List.getElem?_eq_some_iff.1 hc
        unfold tabF
        rw [List.take_succ_eq_append_getElem h1, List.foldl_append, h2]; rfl
      rw [this]; exact m10
  · have : i = D.length := by omega
    subst this
    rw [List.take_length] at mN
    refine compose_Apply_l1_out (compose_Apply_c0_wp ?_)
    have gNb := gN.trans g5
    refine each_W (F := fun i k c => ((tabF D).get ((i : Int), (k : Int))).getD c) (eN.ok hM) (fun N' i j c R eN' hR => apply1_W (eN'.ok (eN.ok hM)) (eN'.same gNb) (mN.same (eN'.get _ mN.lt)) fun N'' e'' => hR N'' e'') (h.ext eN) hn hl fun M' r e' g' => ⟨e'.keep _, q M' r (eN.trans e') ?_⟩
    have : applyF G D = eachF (fun i k c => ((tabF D).get ((i : Int), (k : Int))).getD c) G := by
      unfold applyF eachF
      simp only [tab_look]
    rw [this]; exact g'.old eN
end
end Go.Proofs.Ytkelbhcaecojkaa.Run
namespace Go.Proofs.Ytkelbhcaecojkaa.Run
open Go Go.RowKit
set_option linter.unusedVariables false
set_option linter.unusedSimpArgs false

theorem tiles_at {T : Tls} {D : Dfs} (h : T.map (fun a => (a.1.r, a.2)) = tilesF D) {i : Nat} {a : Tl × Gd} (ha : T[i]? = some a) : ∃ p, D[i]? = some p ∧ a.1.r = p.1.rect ∧ a.2 = gridF p.1.g p.2 := by
  have h2 : (T.map (fun a => (a.1.r, a.2)))[i]? = some (a.1.r, a.2) := by rw [List.getElem?_map, ha]; rfl
  rw [h] at h2
  unfold tilesF at h2
  rw [List.getElem?_map, List.getElem?_take] at h2
  split at h2
  · obtain ⟨p, hp, hpa⟩ := Option.map_eq_some_iff.1 h2
    have hpa := Prod.mk.inj hpa
    exact ⟨p, hp, hpa.1.symm, hpa.2.symm⟩
  · cases h2
theorem tiles_row0 {R C : Nat} : ∀ (T : Tls) (G : Gd), (T.foldl (fun G a => tileF R C a G) G)[0]? = G[0]?
  | [], G => rfl
  | a :: T, G => by
    rw [List.foldl_cons, tiles_row0 T]
    unfold tileF
    rw [tileTo_get]
    cases G[0]? with
    | none => rfl
    | some L => rw [Option.map_some, if_neg (by omega)]
theorem tiles_scr {R C : Nat} : ∀ (T : Tls) {G : Gd}, Scr G R C → Scr (T.foldl (fun G a => tileF R C a G) G) R C
  | [], G, s => s
  | a :: T, G, s => tiles_scr T (G := tileF R C a G) (s.tileTo a R)

section
variable {α : Type} [E : Enc α]
theorem New.setO {ty : TypeId} {M₀ M : Mem} {v : Value} {L : List α} (h : New ty M₀ M v L) {b : Nat} (hb : b < M₀.size) (o : AObj) : New ty M₀ (M.set b o) v L := by
  obtain ⟨b', sp, rfl, g, hlt⟩ := h
  refine ⟨b', sp, rfl, ?_, hlt⟩
  have := Mem.lt_of_get g
  rw [Mem.get_set _ _ _ (by omega), if_neg (by omega)]; exact g
theorem Mine.setO {ty : TypeId} {M₀ M : Mem} {v : Value} {L : List α} (h : Mine ty M₀ M v L) {b : Nat} (hb : b < M₀.size) (o : AObj) : Mine ty M₀ (M.set b o) v L := h.imp (fun h => h.setO hb o) id
theorem Mine.low {ty : TypeId} {M₀ M₁ M : Mem} {v : Value} {L : List α} (hs : M₀.size ≤ M₁.size) (h : Mine ty M₁ M v L) : Mine ty M₀ M v L := h.imp (fun ⟨b, sp, h1, h2, h3⟩ => ⟨b, sp, h1, h2, Nat.le_trans hs h3⟩) id
/-- To a row whose length is its cap something is appended. -/
theorem append_x {ty : TypeId} {bytes : Nat} {M : Mem} {b q : Nat} {x : Value} {A B : List α} (hg : M.get b = some (.cells (flat A) ty true)) (hB : Srcs M x B) (hn : A.length + B.length ≤ 2 ^ 40) (hby : (A.length + B.length) * bytes ≤ 2 ^ 40) :
    ∃ v M', opSem (.append ty bytes E.k false (.const (.slice (some ⟨b, 0, some q⟩) A.length A.length)) (.const x)) [] M = some (v, M') ∧ Ext M M' ∧ ((B = [] ∧ v = .slice (some ⟨b, 0, some q⟩) A.length A.length ∧ M' = M) ∨ (v = .slice (some ⟨M.size, 0, none⟩) (A ++ B).length (A ++ B).length ∧ M'.get M.size = some (.cells (flat (A ++ B)) ty true))) := by
  obtain ⟨l1, l2, l3⟩ := hB
  have hop : opSem (.append ty bytes E.k false (.const (.slice (some ⟨b, 0, some q⟩) A.length A.length)) (.const x)) [] M = appendV M ty bytes E.k (.slice (some ⟨b, 0, some q⟩) A.length A.length) x := by simp only [opSem, ev, l2, if_true]
  rw [hop]
  by_cases h0 : B.length = 0
  · have hB0 : B = [] := List.length_eq_zero_iff.1 h0
    refine ⟨_, M, ?_, Ext.refl M, .inl ⟨hB0, rfl, rfl⟩⟩
    unfold appendV
    simp only [l1, h0, if_true]
  · have hne : B ≠ [] := fun h => h0 (by rw [h]; rfl)
    have hsrc := l3 hne
    refine ⟨.slice (some ⟨M.size, 0, none⟩) (A ++ B).length (A ++ B).length, M.push (.cells (flat A ++ flat B) ty true), ?_, Ext.push _ _, .inr ⟨rfl, by rw [Mem.get_push, if_pos rfl]; simp⟩⟩
    have hl : M.loadN b 0 (A.length * E.k) = some (flat A) := by
      simp only [Mem.loadN, hg, flat_len, Nat.zero_add, Nat.le_refl, if_true, List.drop_zero]
      rw [List.take_of_length_le (by rw [flat_len]; exact Nat.le_refl _)]
    unfold appendV
    simp only [l1, h0, if_false, hsrc, hn, hby, and_self, if_true]
    rw [if_neg (by omega), hl, List.length_append]; rfl
end
theorem GrN.setO {M₀ M : Mem} {v : Value} {G : Gd} (h : GrN M₀ M v G) {b : Nat} (hb : b < M₀.size) (o : AObj) : GrN M₀ (M.set b o) v G := by
  obtain ⟨P, p1, p2, p3⟩ := h
  exact ⟨P, p1.setO hb o, fun p hp => (p2 p hp).setO hb o, p3⟩
theorem GrN.low {M₀ M₁ M : Mem} {v : Value} {G : Gd} (hs : M₀.size ≤ M₁.size) (h : GrN M₁ M v G) : GrN M₀ M v G := by
  obtain ⟨P, p1, p2, p3⟩ := h
  exact ⟨P, p1.low hs, fun p hp => (p2 p hp).low hs, p3⟩
theorem copy_x {M : Mem} {x : Value} {A : List Ch} {b : Nat} {M₀ : Mem} (hb : M₀.size ≤ b) (e : M₀.size ≤ M.size) (hg : M.get b = some (.cells [] 55 true)) (hA : Srcs M x A) (hn : A.length ≤ 2 ^ 30) :
    ∃ v M', opSem (.append 55 48 16 false (.const (.slice (some ⟨b, 0, some 0⟩) 0 0)) (.const x)) [] M = some (v, M') ∧ Ext M M' ∧ New 55 M₀ M' v A := by
  obtain ⟨v, M', h1, h2, h3⟩ := append_x (ty := 55) (bytes := 48) (q := 0) (A := ([] : List Ch)) (M := M) (b := b) hg hA (by rw [List.length_nil]; omega) (by rw [List.length_nil]; omega)
  have hbs := Mem.lt_of_get hg
  refine ⟨v, M', h1, h2, ?_⟩
  rcases h3 with ⟨rfl, rfl, rfl⟩ | ⟨rfl, h4⟩
  · exact ⟨b, some 0, rfl, hg, hb⟩
  · exact ⟨M.size, none, rfl, h4, e⟩
theorem step_nePl {P : Value → Prop} {a b : Pl} (h : a = b) (p : P (.bool false)) : ∃ v, binV .neq 2 [0, 0] (plV a) (plV b) = some v ∧ P v := by
  subst h
  refine ⟨.bool false, ?_, p⟩
  have h : binV .neq 2 [0, 0] (plV a) (plV a) = (eqV true [0, 0] (plV a) (plV a)).bind (negIf .neq) := rfl
  rw [h, eqPl, decide_eq_true rfl]; rfl
theorem step_neB {P : Value → Prop} {a b : Bool} (p : P (.bool (a != b))) : ∃ v, binV .neq 1 [] (.bool a) (.bool b) = some v ∧ P v := ⟨.bool (a != b), by cases a <;> cases b <;> rfl, p⟩
theorem gd_size {G : Gd} {R C : Nat} (s : Scr G R C) (hR : R ≤ 512) (hC : C ≤ 512) : G.length ≤ 2 ^ 19 ∧ ∀ L ∈ G, L.length ≤ 2 ^ 30 := ⟨by rw [s.len]; omega, fun L hL => by rw [s.row L hL]; omega⟩

/-- a screen, and where it lies -/
structure Sn (M₀ M : Mem) (v : Value) (G : Gd) (R C : Nat) (T : List Ce) : Prop where
  gr : GrN M₀ M v G
  scr : Scr G R C
  top : G[0]? = some T
theorem Sn.ext {M₀ M M' : Mem} (e : Ext M M') {v : Value} {G : Gd} {R C : Nat} {T : List Ce} (h : Sn M₀ M v G R C T) : Sn M₀ M' v G R C T := ⟨h.gr.ext e, h.scr, h.top⟩
theorem Sn.setO {M₀ M : Mem} {v : Value} {G : Gd} {R C : Nat} {T : List Ce} (h : Sn M₀ M v G R C T) {b : Nat} (hb : b < M₀.size) (o : AObj) : Sn M₀ (M.set b o) v G R C T := ⟨h.gr.setO hb o, h.scr, h.top⟩

section
variable {M : Mem} {Q : Value → Mem → Prop}
theorem works30_W {M : Mem} (h : Q (.bool true) M) : W funs known (.func (.func n_law30_works) #[] #[]) [] M Q := W_known rfl h
abbrev ccI (P P' : Mem) (b1 b3 b14 : Nat) (R C : Nat) (y0 y1 bc : Int) (bv lv0 lv1 lv2 : Value) (T : List Ce) : Nat → LS → Prop := fun k s => ∃ (i : Nat) (N : Mem) (g0 g1 g2 : Value) (G0 G1 G2 : Gd), s = law30_ComposeChanges_l1_s (.int .i64 R) (.int .i64 C) (.int .i64 i) b1 lv0 lv1 lv2 b3 (.int .u8 y0) (.int .u8 y1) (.int .u8 bc) bv b14 g0 g1 g2 [] N ∧ Ext P N ∧ P'.size ≤ N.size ∧
  (1 ≤ i → Sn P' N g0 G0 R C T) ∧ (2 ≤ i → Sn P' N g1 G1 R C T) ∧ (3 ≤ i → Sn P' N g2 G2 R C T) ∧ i ≤ 3 ∧ k = 3 - i
abbrev clI (P : Mem) (b1 b3 b14 : Nat) (R C : Nat) (y0 y1 bc : Int) (bv lv0 lv1 lv2 av bbv cv g0 g1 g2 : Value) (n : Nat) : Nat → LS → Prop := fun k s => ∃ (i : Nat) (N : Mem), s = law30_ComposeChanges_l4_s (.int .i64 R) (.int .i64 C) av bbv cv (.int .i64 i) b1 lv0 lv1 lv2 b3 (.int .u8 y0) (.int .u8 y1) (.int .u8 bc) bv b14 g0 g1 g2 [] N ∧ Ext P N ∧ i ≤ n ∧ k = n - i

set_option maxHeartbeats 4000000 in
theorem cchanges_W (hM : M.base ≤ M.size) {y0 y1 bc : Int} (h0 : 0 ≤ y0 ∧ y0 ≤ 255) (h1 : 0 ≤ y1 ∧ y1 ≤ 255) (hbc : 0 ≤ bc ∧ bc ≤ 255) {lv0 lv1 lv2 bv : Value} {E0 E1 E2 : List Df} {B : List Dr} (hE0 : Sl M lv0 E0) (kE0 : ∀ a ∈ E0, dfK M a) (hE1 : Sl M lv1 E1) (kE1 : ∀ a ∈ E1, dfK M a) (hE2 : Sl M lv2 E2) (kE2 : ∀ a ∈ E2, dfK M a)
    (hB : Sl M bv B) (okB : ∀ d ∈ B, d.ok) (q : ∀ M', Q (.bool true) M') :
    W funs known (.func (.func n_law30_ComposeChanges) #[] #[]) [.agg #[lv0, lv1, lv2], .agg #[.int .u8 y0, .int .u8 y1, .int .u8 bc, bv]] M Q := by
  obtain ⟨D0, rfl, kD0⟩ := dfs_of kE0
  obtain ⟨D1, rfl, kD1⟩ := dfs_of kE1
  obtain ⟨D2, rfl, kD2⟩ := dfs_of kE2
  clear kE0 kE1 kE2
  obtain ⟨a0, c0, e0⟩ := hE0.shape
  obtain ⟨a1, c1, e1⟩ := hE1.shape
  obtain ⟨a2, c2, e2⟩ := hE2.shape
  obtain ⟨a3, c3, e3⟩ := hB.shape
  subst e0 e1 e2 e3
  refine law30_ComposeChanges_wp hM ⟨rfl, fun b1 P1 hb1 hP1 => ⟨rfl, fun b3 P hb3 hP => works30_W ⟨KeepB.refl _ _, _, rfl, wpIf.ff ?_⟩⟩⟩
  have eP : Ext M P := (Ext.push' hP1).trans (Ext.push' hP)
  have sP1 : P1.size = M.size + 1 := by rw [hP1]; rfl
  have sP : P.size = P1.size + 1 := by rw [hP]; rfl
  have kP := eP.ok hM
  generalize hlv0 : Value.slice a0 D0.row.length c0 = lv0 at *
  generalize hlv1 : Value.slice a1 D1.row.length c1 = lv1 at *
  generalize hlv2 : Value.slice a2 D2.row.length c2 = lv2 at *
  generalize hbv : Value.slice a3 B.length c3 = bv at *
  refine step_rem8 (by omega) (by omega) (step_conv (IntWalk.i64_in _ (by omega)) (step_add (by omega) (by omega) ?_))
  refine step_rem8 (by omega) (by omega) (step_conv (IntWalk.i64_in _ (by omega)) (step_add (by omega) (by omega) ?_))
  obtain ⟨R, hR⟩ : ∃ R : Nat, (2 : Int) + y0 % 13 = R := ⟨(2 + y0 % 13).toNat, by omega⟩
  obtain ⟨C, hC⟩ : ∃ C : Nat, (1 : Int) + y1 % 16 = C := ⟨(1 + y1 % 16).toNat, by omega⟩
  rw [hR, hC]
  refine ⟨rfl, fun b14 P' hb14 hP' => ?_⟩
  have eP' : Ext P P' := Ext.push' hP'
  have sP' : P'.size = P.size + 1 := by rw [hP']; rfl
  generalize hT : resizeF (rowF bc B []) C zeroC = T
  refine ⟨law30_ComposeChanges_l1_m, ccI P P' b1 b3 b14 R C y0 y1 bc bv lv0 lv1 lv2 T, ⟨3, 0, P', .slice none 0 0, .slice none 0 0, .slice none 0 0, [], [], [], rfl, eP', Nat.le_refl _, fun h => absurd h (by omega), fun h => absurd h (by omega), fun h => absurd h (by omega), by omega, rfl⟩, ?_⟩
  rintro k s ⟨i, N, g0, g1, g2, G0, G1, G2, rfl, eN, sN, n0, n1, n2, hi, rfl⟩
  have kN := eN.ok kP
  have eMN := eP.trans eN
  refine law30_ComposeChanges_l1_wp (I := ccI P P' b1 b3 b14 R C y0 y1 bc bv lv0 lv1 lv2 T) (step_lss (wpIf.dec (fun q1 => ?_) (fun q1 => ?_)))
  · have l1 := rowF_len bc B []
    refine row_W (freeze_ok _) hbc (.inl (hB.ext eMN).freeze) okB fun M3 r2 e3 n3 => ⟨e3.keepF _, ?_⟩
    have e3 : Ext N (M3.thaw N.base) := Ext.thaw e3
    have n3 : Mine 53 N (M3.thaw N.base) r2 (rowF bc B []) := n3
    refine LIdx.mk ⟨by omega, by omega⟩ ?_
    rw [Int.toNat_natCast]
    obtain ⟨dv, D, hdv, hD, kD⟩ : ∃ (dv : Value) (D : Dfs), [lv0, lv1, lv2][0 + i * 1]? = some dv ∧ Sl M dv D.row ∧ DfsOK M D := by
      rcases (by omega : i = 0 ∨ i = 1 ∨ i = 2) with rfl | rfl | rfl
      · exact ⟨lv0, D0, rfl, hE0, kD0⟩
      · exact ⟨lv1, D1, rfl, hE1, kD1⟩
      · exact ⟨lv2, D2, rfl, hE2, kD2⟩
    refine LGet.mk hdv ?_
    generalize M3.thaw N.base = N3 at e3 n3 ⊢
    have k3 := e3.ok kN
    refine tiles_W k3 (hD.ext (eMN.trans e3)) (kD.ext (eMN.trans e3)) fun M7 av Tl e7 nT hTF => ⟨e7.keep _, ?_⟩
    have k7 := e7.ok k3
    have hTl : Tl.length ≤ 6 := by
      have := congrArg List.length hTF
      simp only [tilesF, List.length_map, List.length_take] at this
      omega
    have hTok : ∀ a ∈ Tl, TlOK a := fun a ha => by
      obtain ⟨i, hi⟩ := List.mem_iff_getElem?.1 ha
      obtain ⟨p, hp, hr, hg⟩ := tiles_at hTF hi
      have okp := (kD p (List.mem_of_getElem? hp)).1
      have := tl_ok okp (v := a.1.v) (G := a.2) (by rw [hg]; have := gridF_len p.1.g p.2; omega) (by rw [hg]; exact gridF_row)
      rw [← hr] at this
      exact this
    refine screen30_W k7 (by omega) (by omega) (n3.ext e7).sl (by omega) nT.1.sl (by omega) (fun a ha => (nT.2 a ha).gr) hTok fun M9 g e9 g9 => ⟨e9.keep _, g, rfl, .int .i64 0, rfl, ?_⟩
    have e79 := (e3.trans e7).trans e9
    have hS : Sn P' M9 g (screenF R C (rowF bc B []) Tl) R C T := by
      refine ⟨g9.low (by have := e3.size; have := e7.size; omega), tiles_scr Tl (scr0 R C (by omega) _), ?_⟩
      have : (screenF R C (rowF bc B []) Tl)[0]? = (screen0 R C (rowF bc B []))[0]? := tiles_row0 Tl _
      rw [this, ← hT]; rfl
    obtain ⟨ag, cg, hgv⟩ := g9.gr.shape
    refine LIdx.mk ⟨by omega, by omega⟩ ⟨g, by rw [hgv]; rfl, by rw [hgv]; rfl, by rw [Int.toNat_natCast]; omega, fun M13 hM13 => step_add (by omega) (by omega) ?_⟩
    rw [Int.toNat_natCast] at *
    generalize screenF R C (rowF bc B []) Tl = S at hS
    have lt14 : b14 < M9.size := by have := e79.size; omega
    have e13 : Ext P M13 := hM13 ▸ (eN.trans e79).set (by omega) lt14 _
    have s13 : P'.size ≤ M13.size := by rw [hM13]; show P'.size ≤ M9.size; have := e79.size; omega
    have hS13 : Sn P' M13 g S R C T := hM13 ▸ hS.setO (by omega) _
    have up : ∀ {x : Value} {G : Gd}, Sn P' N x G R C T → Sn P' M13 x G R C T := fun h => hM13 ▸ (h.ext e79).setO (by omega) _
    clear hM13
    rcases (by omega : i = 0 ∨ i = 1 ∨ i = 2) with rfl | rfl | rfl
    · exact ⟨2, by omega, 1, M13, g, g1, g2, S, G1, G2, rfl, e13, s13, fun _ => hS13, fun h => absurd h (by omega), fun h => absurd h (by omega), by omega, rfl⟩
    · exact ⟨1, by omega, 2, M13, g0, g, g2, G0, S, G2, rfl, e13, s13, fun _ => up (n0 (by omega)), fun _ => hS13, fun h => absurd h (by omega), by omega, rfl⟩
    · exact ⟨0, by omega, 3, M13, g0, g1, g, G0, G1, S, rfl, e13, s13, fun _ => up (n0 (by omega)), fun _ => up (n1 (by omega)), fun _ => hS13, by omega, rfl⟩
  obtain rfl : i = 3 := by omega
  have t0 := (n0 (by omega)).top
  have t1 := (n1 (by omega)).top
  have s0 := (n0 (by omega)).scr
  have s1 := (n1 (by omega)).scr
  have s2 := (n2 (by omega)).scr
  have r0 := (n0 (by omega)).gr.gr
  have r1 := (n1 (by omega)).gr.gr
  have r2 := (n2 (by omega)).gr.gr
  clear n0 n1 n2 q1 hi
  refine blockK.hit (law30_ComposeChanges_c0_wp ⟨⟨by omega, by omega⟩, ⟨by omega, by omega⟩, ?_⟩)
  refine changes_W kN r0 r1 s0 s1 (by omega) (by omega) fun M2 av e2 m2 => ⟨e2.keep _, av, rfl, .bool true, rfl, ⟨by omega, by omega⟩, ⟨by omega, by omega⟩, ?_⟩
  refine changes_W (e2.ok kN) (r1.ext e2) (r2.ext e2) s1 s2 (by omega) (by omega) fun M6 bbv e6 m6 => ⟨e6.keep _, bbv, rfl, .bool true, rfl, ⟨by omega, by omega⟩, ⟨by omega, by omega⟩, ?_⟩
  have e26 := e2.trans e6
  refine changes_W (e26.ok kN) (r1.ext e26) (r0.ext e26) s1 s0 (by omega) (by omega) fun M10 cv e10 m10 => ⟨e10.keep _, cv, rfl, .bool true, rfl, ?_⟩
  have e210 := e26.trans e10
  have k10 := e210.ok kN
  have m2 := m2.sl.ext (e6.trans e10)
  have m6 := m6.sl.ext e10
  have m10 := m10.sl
  refine ⟨_, rfl, wpIf.ff ⟨_, rfl, wpIf.ff ⟨_, rfl, wpIf.ff ?_⟩⟩⟩
  have hpl := diff_places G0 G1 C R
  have hlen : (diffG G0 G1 C R).length = (diffG G1 G0 C R).length := by simpa using congrArg List.length hpl
  refine step_lenS m2 (step_lenS m10 (s_neF (by omega) (wpIf.ff (step_lenS m2 (step_eql ⟨⟨by omega, by omega⟩, ⟨by omega, by omega⟩, ?_⟩)))))
  have z0 := gd_size s0 (by omega) (by omega)
  have z1 := gd_size s1 (by omega) (by omega)
  refine gsame_W k10 (r0.ext e210) (r1.ext e210) z0.2 (by have := z0.1; omega) ⟨KeepB.refl _ _, step_neB ?_⟩
  have hb : (decide (((diffG G0 G1 C R).length : Int) = 0) != decide (G0 = G1)) = false := by
    have h3 := diff_nil s0 s1
    by_cases hG : G0 = G1
    · rw [decide_eq_true hG, h3.2 hG]; rfl
    · rw [decide_eq_false hG]
      have : (diffG G0 G1 C R).length ≠ 0 := fun h => hG (h3.1 (List.length_eq_zero_iff.1 h))
      rw [decide_eq_false (by omega)]; rfl
  rw [hb]
  refine wpIf.ff (law30_ComposeChanges_c2_wp ?_)
  clear hb
  obtain ⟨X, hX⟩ : ∃ X, X = diffG G0 G1 C R := ⟨_, rfl⟩
  obtain ⟨Y, hY⟩ : ∃ Y, Y = diffG G1 G0 C R := ⟨_, rfl⟩
  have hXl : X.length ≤ 1048576 := by
    rw [hX]
    have h1 := diffG_len G0 G1 C R
    have h2 : R * C ≤ 1024 * 1024 := Nat.mul_le_mul (by omega) (by omega)
    omega
  have hZl : (diffG G1 G2 C R).length ≤ 1048576 := by
    have h1 := diffG_len G1 G2 C R
    have h2 : R * C ≤ 1024 * 1024 := Nat.mul_le_mul (by omega) (by omega)
    omega
  have hYl : Y.length ≤ 1048576 := by rw [hY, ← hlen, ← hX]; exact hXl
  have hrise := diff_rise G0 G1 C R
  rw [← hX] at m2 hlen hpl hrise
  rw [← hY] at m10 hlen hpl
  have r0 := r0.ext e210
  have r1 := r1.ext e210
  have r2 := r2.ext e210
  refine ⟨law30_ComposeChanges_l4_m, clI M10 b1 b3 b14 R C y0 y1 bc bv lv0 lv1 lv2 av bbv cv g0 g1 g2 X.length, ⟨X.length, 0, M10, rfl, Ext.refl _, Nat.zero_le _, rfl⟩, ?_⟩
  rintro k s ⟨i, N', rfl, eX, hi, rfl⟩
  have kX := eX.ok k10
  refine law30_ComposeChanges_l4_wp (I := clI M10 b1 b3 b14 R C y0 y1 bc bv lv0 lv1 lv2 av bbv cv g0 g1 g2 X.length) (step_lenS m2 (step_lss (wpIf.dec (fun q1 => ?_) (fun q1 => ?_))))
  · obtain ⟨x, hx⟩ : ∃ x, X[i]? = some x := ⟨_, List.getElem?_eq_getElem (by omega)⟩
    obtain ⟨y, hy⟩ : ∃ y, Y[i]? = some y := ⟨_, List.getElem?_eq_getElem (by omega)⟩
    have hxy : (x.i, x.k) = (y.i, y.k) := by
      have := congrArg (fun l => l[i]?) hpl
      simp only [List.getElem?_map, hx, hy, Option.map_some, Option.some.injEq] at this
      exact this
    obtain ⟨u, w, hu, hw, hxe, hne⟩ := diff_mem (A := G0) (B := G1) (C := C) (n := R) (x := x) (by rw [← hX]; exact List.mem_of_getElem? hx)
    have hu1 : 1 ≤ u := by
      rcases Nat.eq_zero_or_pos u with rfl | h
      · exfalso
        apply hne
        unfold at2
        rw [getD_some t0, getD_some t1]
      · exact h
    have xi : x.i = u := by rw [hxe]
    have xk : x.k = w := by rw [hxe]
    have xc : x.c = at2 G1 u w := by rw [hxe]
    obtain ⟨L, hL⟩ : ∃ L, G1[u]? = some L := ⟨_, List.getElem?_eq_getElem (by rw [s1.len]; exact hu)⟩
    obtain ⟨c, hc⟩ : ∃ c, L[w]? = some c := ⟨_, List.getElem?_eq_getElem (by rw [s1.row L (List.mem_of_getElem? hL)]; exact hw)⟩
    have hcx : x.c = c := by rw [xc, at2_get hL hc]
    have ri : X[(i : Int).toNat]? = some x := by rw [Int.toNat_natCast]; exact hx
    refine rd_fs (m2.ext eX) (by omega) ri (f := 0) (n := 2) (l := [.int .i64 x.i, .int .i64 x.k]) rfl (by exact Nat.le_of_ble_eq_true rfl) fun _ _ => ⟨rfl, fun b6 M7 hb6 hM7 => ⟨⟨rfl, rfl, by decide⟩, fun M8 hM8 => ?_⟩⟩
    have e7 : Ext N' M7 := Ext.push' hM7
    have t7 : M7.size = N'.size + 1 := by rw [hM7]; rfl
    have e8 : Ext N' M8 := hM8 ▸ e7.set (by omega) (by omega) _
    have eX8 := eX.trans e8
    have p2 := m2.ext eX8
    refine LGetN.as (plV (x.i, x.k)) (by exact Nat.le_refl 2) rfl ?_
    refine rd_fs (m10.ext eX8) (by omega) (by rw [Int.toNat_natCast]; exact hy) (f := 0) (n := 2) (l := [.int .i64 y.i, .int .i64 y.k]) rfl (by exact Nat.le_of_ble_eq_true rfl) fun _ _ => ?_
    refine step_nePl (a := (x.i, x.k)) (b := (y.i, y.k)) hxy (wpIf.ff ?_)
    refine LGet.mk (v := .int .i64 x.i) rfl (s_ltF (by omega) (wpIf.ff (LGet.mk (v := .int .i64 x.i) rfl (s_geF (by omega) (wpIf.ff (LGet.mk (v := .int .i64 x.k) rfl (s_ltF (by omega) (wpIf.ff (LGet.mk (v := .int .i64 x.k) rfl (s_geF (by omega) (wpIf.ff ?_)))))))))))
    have nxt : ∃ j, j < X.length - i ∧ clI M10 b1 b3 b14 R C y0 y1 bc bv lv0 lv1 lv2 av bbv cv g0 g1 g2 X.length j (law30_ComposeChanges_l4_s (.int .i64 R) (.int .i64 C) av bbv cv (.int .i64 ((i : Int) + 1)) b1 lv0 lv1 lv2 b3 (.int .u8 y0) (.int .u8 y1) (.int .u8 bc) bv b14 g0 g1 g2 [] M8) := ⟨X.length - (i + 1), by omega, i + 1, M8, rfl, eX8, by omega, rfl⟩
    refine step_gtr (wpIf.dec (fun q2 => ?_) (fun q2 => ?_))
    · obtain ⟨z, hz⟩ : ∃ z, X[i - 1]? = some z := ⟨_, List.getElem?_eq_getElem (by omega)⟩
      have hah : ahead z x := by
        obtain ⟨h3, rfl⟩ := List.getElem?_eq_some_iff.1 hz
        obtain ⟨h4, rfl⟩ := List.getElem?_eq_some_iff.1 hx
        exact (List.pairwise_iff_getElem.1 hrise) _ _ h3 h4 (by omega)
      have rz : X[((i : Int) - 1).toNat]? = some z := by rw [show ((i : Int) - 1).toNat = i - 1 by omega]; exact hz
      unfold ahead at hah
      refine LGet.mk (v := .int .i64 x.i) rfl (step_sub (by omega) (by omega) ?_)
      refine rd_at p2 (by omega) rz fun p hp => ?_
      obtain ⟨f1, k1, k2⟩ := hp.field 0 (v := .int .i64 z.i) rfl M8
      obtain ⟨bq, oq, rfl, hq⟩ := hp
      refine ⟨.pointer (some ⟨bq, oq + 0, none⟩), rfl, .pointer (some ⟨bq, oq + 0 + 0, none⟩), rfl, .int .i64 z.i, ?_, s_ltF (by omega) (wpIf.ff ?_)⟩
      · simp only [opSem, ev, Nat.add_zero]
        have := loadN_1 hq (f := 0) (v := .int .i64 z.i) rfl
        rw [Nat.add_zero] at this
        rw [this]; rfl
      refine LGet.mk (v := .int .i64 x.i) rfl (step_sub (by omega) (by omega) ?_)
      refine rd_at p2 (by omega) rz fun p hp => ?_
      obtain ⟨bq, oq, rfl, hq⟩ := hp
      refine ⟨.pointer (some ⟨bq, oq + 0, none⟩), rfl, .pointer (some ⟨bq, oq + 0 + 0, none⟩), rfl, .int .i64 z.i, ?_, step_eql (wpIf.dec (fun q3 => ?_) (fun q3 => ?_))⟩
      · simp only [opSem, ev, Nat.add_zero]
        have := loadN_1 hq (f := 0) (v := .int .i64 z.i) rfl
        rw [Nat.add_zero] at this
        rw [this]; rfl
      · refine LGet.mk (v := .int .i64 x.k) rfl (step_sub (by omega) (by omega) ?_)
        refine rd_at p2 (by omega) rz fun p hp => ?_
        obtain ⟨bq, oq, rfl, hq⟩ := hp
        refine ⟨.pointer (some ⟨bq, oq + 0, none⟩), rfl, .pointer (some ⟨bq, oq + 0 + 1, none⟩), rfl, .int .i64 z.k, ?_, s_leF (by omega) (wpIf.ff ?_)⟩
        · simp only [opSem, ev, Nat.add_zero]
          have := loadN_1 hq (f := 1) (v := .int .i64 z.k) rfl
          rw [this]; rfl
        refine rd_fs p2 (by omega) ri (f := 2) (n := 14) (l := Enc.enc x.c) rfl (by exact Nat.le_of_ble_eq_true rfl) fun _ _ => ⟨⟨by omega, by omega⟩, LGet.mk (v := .int .i64 x.i) rfl ?_⟩
        refine rdG (r1.ext eX8) (by omega) (by rw [show x.i.toNat = u by omega]; exact hL) fun _ xl sl => LGet.mk (v := .int .i64 x.k) rfl ?_
        refine rd sl (by omega) (by rw [show x.k.toNat = w by omega]; exact hc) fun _ => step_neqCe (a := x.c) (b := c) ?_
        rw [decide_eq_false (fun h => h hcx)]
        exact wpIf.ff (step_add (by omega) (by omega) nxt)
      · refine rd_fs p2 (by omega) ri (f := 2) (n := 14) (l := Enc.enc x.c) rfl (by exact Nat.le_of_ble_eq_true rfl) fun _ _ => ⟨⟨by omega, by omega⟩, LGet.mk (v := .int .i64 x.i) rfl ?_⟩
        refine rdG (r1.ext eX8) (by omega) (by rw [show x.i.toNat = u by omega]; exact hL) fun _ xl sl => LGet.mk (v := .int .i64 x.k) rfl ?_
        refine rd sl (by omega) (by rw [show x.k.toNat = w by omega]; exact hc) fun _ => step_neqCe (a := x.c) (b := c) ?_
        rw [decide_eq_false (fun h => h hcx)]
        exact wpIf.ff (step_add (by omega) (by omega) nxt)
    · refine rd_fs p2 (by omega) ri (f := 2) (n := 14) (l := Enc.enc x.c) rfl (by exact Nat.le_of_ble_eq_true rfl) fun _ _ => ⟨⟨by omega, by omega⟩, LGet.mk (v := .int .i64 x.i) rfl ?_⟩
      refine rdG (r1.ext eX8) (by omega) (by rw [show x.i.toNat = u by omega]; exact hL) fun _ xl sl => LGet.mk (v := .int .i64 x.k) rfl ?_
      refine rd sl (by omega) (by rw [show x.k.toNat = w by omega]; exact hc) fun _ => step_neqCe (a := x.c) (b := c) ?_
      rw [decide_eq_false (fun h => h hcx)]
      exact wpIf.ff (step_add (by omega) (by omega) nxt)
  refine blockK.hit (law30_ComposeChanges_c3_wp ?_)
  have hb1 : ∀ b ∈ [b1, b3, b14], b < N'.size := fun b hb => by
    have := eX.size
    have := e210.size
    simp only [List.mem_cons, List.not_mem_nil, or_false] at hb
    omega
  have r0 := r0.ext eX
  have r1 := r1.ext eX
  have r2 := r2.ext eX
  have m2 := m2.ext eX
  have m6 := m6.ext eX
  have m10 := m10.ext eX
  have z2 := gd_size s2 (by omega) (by omega)
  have A1 : applyF G0 X = G1 := by rw [hX]; exact apply_diff s0 s1
  have A2 : applyF G1 Y = G0 := by rw [hY]; exact apply_diff s1 s0
  have A3 : applyF G0 (X ++ diffG G1 G2 C R) = G2 := by rw [hX]; exact apply_two s0 s1 s2
  clear eX e210 e10 e6 e2 e26 k10
  generalize diffG G1 G2 C R = Z at *
  refine ⟨⟨by omega, by omega⟩, ?_⟩
  refine apply_W (freeze_ok _) r0.freeze m2.freeze z0.1 z0.2 (by omega) fun Ma x1 ea ga => ⟨ea.keepF _, ⟨by omega, by omega⟩, ?_⟩
  have ea : Ext N' (Ma.thaw N'.base) := Ext.thaw ea
  have ga : GrN N' (Ma.thaw N'.base) x1 (applyF G0 X) := ga
  generalize Ma.thaw N'.base = Na at ea ga ⊢
  have ka := ea.ok kX
  refine gsame_W ka ga.gr (r1.ext ea) (fun L hL => by rw [A1] at hL; exact z1.2 L hL) (by rw [A1]; have := z1.1; omega) ⟨KeepB.refl _ _, ?_⟩
  rw [decide_eq_true A1]
  refine wpIf.tt ⟨⟨by omega, by omega⟩, ?_⟩
  refine apply_W (freeze_ok _) (r1.ext ea).freeze (m10.ext ea).freeze z1.1 z1.2 (by omega) fun Mb x2 eb gb => ⟨eb.keepF _, ⟨by omega, by omega⟩, ?_⟩
  have eb : Ext Na (Mb.thaw Na.base) := Ext.thaw eb
  have gb : GrN Na (Mb.thaw Na.base) x2 (applyF G1 Y) := gb
  generalize Mb.thaw Na.base = Nb at eb gb ⊢
  have eab := ea.trans eb
  have kb := eab.ok kX
  refine gsame_W kb gb.gr (r0.ext eab) (fun L hL => by rw [A2] at hL; exact z0.2 L hL) (by rw [A2]; have := z0.1; omega) ⟨KeepB.refl _ _, ?_⟩
  rw [decide_eq_true A2]
  refine wpIf.tt ⟨⟨by omega, by omega⟩, ?_⟩
  have eD : Ext Nb ((Nb.freeze.push (.cells [] 55 true)).thaw Nb.base) := Ext.thaw (Ext.push Nb.freeze _)
  have gD : ((Nb.freeze.push (.cells [] 55 true)).thaw Nb.base).freeze.get Nb.size = some (.cells [] 55 true) := by
    show (Nb.freeze.push (.cells [] 55 true)).get Nb.size = _
    rw [Mem.get_push]; exact if_pos rfl
  refine ⟨.slice (some ⟨Nb.size, 0, some 0⟩) 0 0, Nb.freeze.push (.cells [] 55 true), rfl, (Ext.push Nb.freeze _).keepF _, ?_⟩
  generalize (Nb.freeze.push (.cells [] 55 true)).thaw Nb.base = Q1 at eD gD ⊢
  have eQ1 := eab.trans eD
  obtain ⟨v15, M16, h15, e16, n16⟩ := copy_x (M := Q1.freeze) (M₀ := Nb) (b := Nb.size) (Nat.le_refl _) eD.size gD ((m2.ext eQ1).freeze).srcs (by omega)
  refine ⟨v15, M16, h15, e16.keepF _, ?_⟩
  have eQ : Ext Q1 (M16.thaw Nb.base) := eD.base ▸ Ext.thaw e16
  have nQ : New 55 Nb (M16.thaw Nb.base) v15 X := n16
  generalize M16.thaw Nb.base = Q2 at eQ nQ ⊢
  have eQ2 : Ext Nb Q2 := eD.trans eQ
  have eN2 : Ext N' Q2 := eab.trans eQ2
  obtain ⟨v19, Q3, h19, eS', m19, w1, w2, w3⟩ := append_ok (ty := 55) (bytes := 48) eQ2 kb (.inl nQ) (m6.ext eN2).srcs (by omega) (by omega)
  obtain ⟨ad17, hv17⟩ : ∃ ad, v15 = .slice ad X.length X.length := by obtain ⟨b, sp, h, _⟩ := nQ; exact ⟨_, h⟩
  subst hv17
  have eN3 : Ext N' Q3 := eab.trans eS'
  refine ⟨v19, Q3, opSemQ_app h19, fun c hc _ => by rw [eN3.get _ (hb1 c hc), eN2.get _ (hb1 c hc)], ?_⟩
  have k3 := eN3.ok kX
  refine apply_W (freeze_ok _) (r0.ext eN3).freeze m19.sl.freeze z0.1 z0.2 (by rw [List.length_append]; omega) fun Mc x3 ec gc => ⟨ec.keepF _, ⟨by omega, by omega⟩, ?_⟩
  have ec : Ext Q3 (Mc.thaw Q3.base) := Ext.thaw ec
  have gc : GrN Q3 (Mc.thaw Q3.base) x3 (applyF G0 (X ++ Z)) := gc
  generalize Mc.thaw Q3.base = Nc at ec gc ⊢
  have ecc := eN3.trans ec
  refine gsame_W (ecc.ok kX) gc.gr (r2.ext ecc) (fun L hL => by rw [A3] at hL; exact z2.2 L hL) (by rw [A3]; have := z2.1; omega) ⟨KeepB.refl _ _, ?_⟩
  rw [decide_eq_true A3]
  exact q _
end
end Go.Proofs.Ytkelbhcaecojkaa.Run
