/- Sums of rectangles: the numbers of cells, the cells of a rectangle one by one, and what they come to. -/
import Derived.Test.YtklnbkacnghdnaaAct
import Derived.Test.YtklnbkacnghdnaaVcX
namespace Go.Proofs.Ytklnbkacnghdnaa.Run
open Go Go.RowKit
set_option linter.unusedVariables false
set_option linter.unusedSimpArgs false
theorem step_addW {P : Value → Prop} {k : IntKind} {x y : Int} (p : P (.int k (k.wrap (x + y)))) : ∃ v, binV .add 0 [] (.int k x) (.int k y) = some v ∧ P v := ⟨_, by simp only [binV, isShift, Bool.false_eq_true, if_false, if_true, intOp], p⟩
theorem step_subW {P : Value → Prop} {k : IntKind} {x y : Int} (p : P (.int k (k.wrap (x - y)))) : ∃ v, binV .sub 0 [] (.int k x) (.int k y) = some v ∧ P v := ⟨_, by simp only [binV, isShift, Bool.false_eq_true, if_false, if_true, intOp], p⟩
theorem step_mulW {P : Value → Prop} {k : IntKind} {x y : Int} (p : P (.int k (k.wrap (x * y)))) : ∃ v, binV .mul 0 [] (.int k x) (.int k y) = some v ∧ P v := ⟨_, by simp only [binV, isShift, Bool.false_eq_true, if_false, if_true, intOp], p⟩
theorem step_convW {P : Value → Prop} {j k : IntKind} {x : Int} {M : Mem} (p : P (.int k (k.wrap x))) : ∃ v, opSem (.convI k (.const (.int j x))) [] M = some (v, M) ∧ P v := ⟨_, rfl, p⟩
theorem Ext.set_new {M₀ M : Mem} (e : Ext M₀ M) {b : Nat} (h : M₀.size ≤ b) (hb : b < M.size) (o : AObj) : Ext M₀ (M.set b o) :=
  ⟨e.base, by have := e.size; simpa using this, fun c hc => by rw [Mem.get_set _ _ _ hb, if_neg (by omega)]; exact e.get c hc⟩
def w32 (x : Int) : Int := IntKind.i32.wrap x
def num0 (c : Ce) : Int := w32 (c.rune + w32 (256 * w32 c.attr.a9))
def num1 (c : Ce) : Int := if c.rune = 0 ∧ c.kind ≠ 2 then w32 (num0 c + 32) else num0 c
def numF (c : Ce) : Int := w32 (w32 (num1 c + c.m1) + c.m2)
section
variable {M : Mem} {Q : Value → Mem → Prop}
abbrev nuI (N : Mem) (c : Ce) (b1 : Nat) : Nat → LS → Prop := fun k s => ∃ i : Nat, s = rect_number_l1_s (.int .i32 (if i = 0 then num1 c else if i = 1 then w32 (num1 c + c.m1) else numF c)) (.agg #[.int .i32 c.m1, .int .i32 c.m2]) (.int .i64 i) b1 (.int .i32 c.rune) (.int .i32 c.m1) (.int .i32 c.m2) (.int .u8 c.kind) (.int .u8 c.attr.a1) (.int .u8 c.attr.a2) (.int .u8 c.attr.a3) (.int .u8 c.attr.a4) (.int .u8 c.attr.a5) (.int .u8 c.attr.a6) (.int .u8 c.attr.a7) (.int .u8 c.attr.a8) (.int .u16 c.attr.a9) (.int .u8 c.label) [] N ∧ i ≤ 2 ∧ k = 2 - i
theorem number_W (hM : M.base ≤ M.size) {c : Ce} (q : ∀ M', Ext M M' → Q (.int .i32 (numF c)) M') : W funs known (.func (.func n_rect_number) #[] #[]) [c.val] M Q := by
  refine rect_number_wp hM ⟨rfl, fun b1 M2 hb1 hM2 => step_convW (step_mulW (step_addW ?_))⟩
  have e2 : Ext M M2 := Ext.push' hM2
  by_cases h0 : c.rune = 0
  · refine s_eqT h0 (wpIf.tt ?_)
    by_cases hk : c.kind = 2
    · have hn : num1 c = num0 c := by unfold num1; rw [if_neg (fun h => h.2 hk)]
      refine s_neF (fun h => h hk) (wpIf.ff ?_)
      refine ⟨rect_number_l1_m, nuI M2 c b1, ⟨2, 0, by rw [if_pos rfl, hn]; rfl, by omega, rfl⟩, ?_⟩
      rintro k s ⟨i, rfl, hi, rfl⟩
      refine rect_number_l1_wp (I := nuI M2 c b1) ?_
      have : i = 0 ∨ i = 1 ∨ i = 2 := by omega
      rcases this with rfl | rfl | rfl
      · exact s_ltT (by decide) (wpIf.tt ⟨.int .i32 c.m1, rfl, step_addW (step_add (by omega) (by omega) ⟨1, by omega, 1, rfl, by omega, rfl⟩)⟩)
      · exact s_ltT (by decide) (wpIf.tt ⟨.int .i32 c.m2, rfl, step_addW (step_add (by omega) (by omega) ⟨0, by omega, 2, rfl, by omega, rfl⟩)⟩)
      · exact s_ltF (by decide) (wpIf.ff (blockK.hit (rect_number_c0_wp (q M2 e2))))
    · have hn : num1 c = w32 (num0 c + 32) := by unfold num1; rw [if_pos ⟨h0, hk⟩]
      refine s_neT hk (wpIf.tt (step_addW ?_))
      refine ⟨rect_number_l1_m, nuI M2 c b1, ⟨2, 0, by rw [if_pos rfl, hn]; rfl, by omega, rfl⟩, ?_⟩
      rintro k s ⟨i, rfl, hi, rfl⟩
      refine rect_number_l1_wp (I := nuI M2 c b1) ?_
      have : i = 0 ∨ i = 1 ∨ i = 2 := by omega
      rcases this with rfl | rfl | rfl
      · exact s_ltT (by decide) (wpIf.tt ⟨.int .i32 c.m1, rfl, step_addW (step_add (by omega) (by omega) ⟨1, by omega, 1, rfl, by omega, rfl⟩)⟩)
      · exact s_ltT (by decide) (wpIf.tt ⟨.int .i32 c.m2, rfl, step_addW (step_add (by omega) (by omega) ⟨0, by omega, 2, rfl, by omega, rfl⟩)⟩)
      · exact s_ltF (by decide) (wpIf.ff (blockK.hit (rect_number_c0_wp (q M2 e2))))
  · have hn : num1 c = num0 c := by unfold num1; rw [if_neg (fun h => h0 h.1)]
    refine s_eqF h0 (wpIf.ff ?_)
    refine ⟨rect_number_l1_m, nuI M2 c b1, ⟨2, 0, by rw [if_pos rfl, hn]; rfl, by omega, rfl⟩, ?_⟩
    rintro k s ⟨i, rfl, hi, rfl⟩
    refine rect_number_l1_wp (I := nuI M2 c b1) ?_
    have : i = 0 ∨ i = 1 ∨ i = 2 := by omega
    rcases this with rfl | rfl | rfl
    · exact s_ltT (by decide) (wpIf.tt ⟨.int .i32 c.m1, rfl, step_addW (step_add (by omega) (by omega) ⟨1, by omega, 1, rfl, by omega, rfl⟩)⟩)
    · exact s_ltT (by decide) (wpIf.tt ⟨.int .i32 c.m2, rfl, step_addW (step_add (by omega) (by omega) ⟨0, by omega, 2, rfl, by omega, rfl⟩)⟩)
    · exact s_ltF (by decide) (wpIf.ff (blockK.hit (rect_number_c0_wp (q M2 e2))))
end
theorem rows_get {β : Type} (f : Nat → Nat → β) (w : Nat) : ∀ (h i k : Nat), i < h → k < w → ((List.range h).flatMap fun i => (List.range w).map (f i))[i * w + k]? = some (f i k) := by
  have hlen : ∀ h, ((List.range h).flatMap fun i => (List.range w).map (f i)).length = h * w := fun h => by
    induction h with
    | zero => simp
    | succ h ih => rw [List.range_succ, List.flatMap_append, List.length_append, ih, Nat.add_mul]; simp
  intro h
  induction h with
  | zero => intro i k hi; omega
  | succ h ih =>
    intro i k hi hk
    rw [List.range_succ, List.flatMap_append]
    by_cases hih : i < h
    · rw [List.getElem?_append_left]
      · exact ih i k hih hk
      · rw [hlen]
        have : (i + 1) * w ≤ h * w := Nat.mul_le_mul_right _ hih
        rw [Nat.add_mul] at this; omega
    · have : i = h := by omega
      subst this
      rw [List.getElem?_append_right (by rw [hlen]; omega), hlen, show i * w + k - i * w = k by omega]
      simp [hk]
theorem rows_length {β : Type} (f : Nat → Nat → β) (w h : Nat) : ((List.range h).flatMap fun i => (List.range w).map (f i)).length = h * w := by
  induction h with
  | zero => simp
  | succ h ih => rw [List.range_succ, List.flatMap_append, List.length_append, ih, Nat.add_mul]; simp
def zeroCe : Ce := ⟨0, 0, 0, 0, ⟨0, 0, 0, 0, 0, 0, 0, 0, 0⟩, 0⟩
def cellAt (G : Gd) (i k : Nat) : Ce := (G.getD i []).getD k zeroCe
abbrev posV (i k : Int) : Value := .agg #[.int .i64 i, .int .i64 k]
def cellsG (G : Gd) (m : Rc) : List Ce := (List.range m.r.toNat).flatMap fun i => (List.range m.c.toNat).map fun k => cellAt G (m.t.toNat + i) (m.l.toNat + k)
def itemsG (G : Gd) (m : Rc) : List (List Value) := (List.range m.r.toNat).flatMap fun i => (List.range m.c.toNat).map fun k => [posV (m.t + (i : Nat)) (m.l + (k : Nat)), (cellAt G (m.t.toNat + i) (m.l.toNat + k)).val]
theorem items_len (G : Gd) (m : Rc) : (itemsG G m).length = m.r.toNat * m.c.toNat := rows_length _ _ _
theorem item_cell {G : Gd} {m : Rc} {n : Nat} {x : List Value} (h : (itemsG G m)[n]? = some x) : ∃ (p : Value) (c : Ce), x = [p, c.val] ∧ (cellsG G m)[n]? = some c := by
  have hn := (List.getElem?_eq_some_iff.1 h).1
  rw [items_len] at hn
  have hw : 0 < m.c.toNat := by
    rcases Nat.eq_zero_or_pos m.c.toNat with h0 | h0
    · rw [h0, Nat.mul_zero] at hn; omega
    · exact h0
  have hi : n / m.c.toNat < m.r.toNat := (Nat.div_lt_iff_lt_mul hw).2 hn
  have hk := Nat.mod_lt n hw
  have hdm : n / m.c.toNat * m.c.toNat + n % m.c.toNat = n := by rw [Nat.mul_comm]; exact Nat.div_add_mod n _
  have g1 := rows_get (fun i k => [posV (m.t + (i : Nat)) (m.l + (k : Nat)), (cellAt G (m.t.toNat + i) (m.l.toNat + k)).val]) m.c.toNat m.r.toNat _ _ hi hk
  have g2 := rows_get (fun i k => cellAt G (m.t.toNat + i) (m.l.toNat + k)) m.c.toNat m.r.toNat _ _ hi hk
  rw [hdm] at g1 g2
  have g1' : (itemsG G m)[n]? = _ := g1
  rw [g1'] at h
  exact ⟨_, _, (Option.some.inj h).symm, g2⟩
section
variable {Q : Value → Mem → Prop}
abbrev ceV (bl bg : Nat) : Value := .func (.func n_rect_cells_1) #[] #[.pointer (some ⟨bl, 0, none⟩), .pointer (some ⟨bg, 0, none⟩)]
structure Held (N : Mem) (bl bg bv : Nat) (lv gv : Value) (T : List Rc) : Prop where
  l : N.get bl = some (.cells [lv] 93 true)
  g : N.get bg = some (.cells [gv] 34 true)
  v : N.get bv = some (.cells (flat T) 26 true)
theorem Held.of {N N' : Mem} {bl bg bv : Nat} {lv gv : Value} {T : List Rc} (h : Held N bl bg bv lv gv T) (k : ∀ b ∈ [bl, bg, bv], b < N.size → N'.get b = N.get b) : Held N' bl bg bv lv gv T :=
  ⟨by rw [k bl (by simp) (Mem.lt_of_get h.l)]; exact h.l, by rw [k bg (by simp) (Mem.lt_of_get h.g)]; exact h.g, by rw [k bv (by simp) (Mem.lt_of_get h.v)]; exact h.v⟩
theorem Held.ext {N N' : Mem} {bl bg bv : Nat} {lv gv : Value} {T : List Rc} (e : Ext N N') (h : Held N bl bg bv lv gv T) : Held N' bl bg bv lv gv T := h.of fun b _ hb => e.get b hb
def itemsT (G : Gd) (T : List Rc) : List (List Value) := T.flatMap fun a => itemsG G (clippedF G a)
def offT (G : Gd) (T : List Rc) (i : Nat) : Nat := (itemsT G (T.take i)).length
theorem off_succ {G : Gd} {T : List Rc} {i : Nat} {a : Rc} (h : T[i]? = some a) : offT G T (i + 1) = offT G T i + (itemsG G (clippedF G a)).length := by
  obtain ⟨h1, h2⟩ := List.getElem?_eq_some_iff.1 h
  unfold offT itemsT
  rw [List.take_succ_eq_append_getElem h1, h2, List.flatMap_append, List.length_append]
  simp
theorem off_all (G : Gd) (T : List Rc) : offT G T T.length = (itemsT G T).length := by unfold offT; rw [List.take_length]
theorem itemsT_get {G : Gd} {T : List Rc} {i n : Nat} {a : Rc} {x : List Value} (h : T[i]? = some a) (hx : (itemsG G (clippedF G a))[n]? = some x) : (itemsT G T)[offT G T i + n]? = some x := by
  obtain ⟨h1, h2⟩ := List.getElem?_eq_some_iff.1 h
  have hn := (List.getElem?_eq_some_iff.1 hx).1
  have e : itemsT G T = itemsT G (T.take i) ++ (itemsG G (clippedF G a) ++ itemsT G (T.drop (i + 1))) := by
    have : T = T.take i ++ (a :: T.drop (i + 1)) := by
      conv => lhs; rw [← List.take_append_drop i T]
      congr 1
      rw [List.drop_eq_getElem_cons h1, h2]
    conv => lhs; rw [this]
    unfold itemsT
    rw [List.flatMap_append, List.flatMap_cons]
  rw [e, List.getElem?_append_right (by unfold offT; omega)]
  rw [show offT G T i + n - (itemsT G (T.take i)).length = n by unfold offT; omega, List.getElem?_append_left hn]
  exact hx
abbrev c0I (n0 bl bg bv : Nat) (lv gv y : Value) (G : Gd) (T : List Rc) (I : Nat → List Nat → Mem → Prop) (bs : Nat) : Nat → LS → Prop := fun k s => ∃ (i : Nat) (N : Mem) (B : List Nat), s = rect_cells_1_l0_s y (.pointer (some ⟨bg, 0, none⟩)) lv (.int .i64 T.length) (.int .i64 i) [] N ∧ I (offT G T i) B N ∧ Held N bl bg bv lv gv T ∧ N.base = bs ∧ n0 ≤ N.size ∧ i ≤ T.length ∧ k = T.length - i
abbrev c2I (n0 bl bg bv : Nat) (lv gv y : Value) (T : List Rc) (i0 o0 : Nat) (m : Rc) (I : Nat → List Nat → Mem → Prop) (bs B0 : Nat) : Nat → LS → Prop := fun k s => ∃ (i : Nat) (N : Mem) (B : List Nat), s = rect_cells_1_l2_s y (.pointer (some ⟨bg, 0, none⟩)) lv (.int .i64 T.length) (.int .i64 i0) (.int .i64 m.r) (.int .i64 i) B0 (Enc.enc m) [] N ∧ I (o0 + i * m.c.toNat) B N ∧ B0 ∉ B ∧ n0 ≤ B0 ∧ B0 < N.size ∧ Held N bl bg bv lv gv T ∧ N.base = bs ∧ n0 ≤ N.size ∧ i ≤ m.r.toNat ∧ k = m.r.toNat - i
abbrev c4I (n0 bl bg bv : Nat) (lv gv y : Value) (T : List Rc) (i0 o0 : Nat) (m : Rc) (I : Nat → List Nat → Mem → Prop) (bs B0 : Nat) (i : Nat) : Nat → LS → Prop := fun k s => ∃ (j : Nat) (N : Mem) (B : List Nat), s = rect_cells_1_l4_s y (.pointer (some ⟨bg, 0, none⟩)) (.int .i64 i) lv (.int .i64 T.length) (.int .i64 i0) (.int .i64 m.r) (.int .i64 i) (.int .i64 m.c) (.int .i64 j) B0 (Enc.enc m) [] N ∧ I (o0 + i * m.c.toNat + j) B N ∧ B0 ∉ B ∧ n0 ≤ B0 ∧ B0 < N.size ∧ Held N bl bg bv lv gv T ∧ N.base = bs ∧ n0 ≤ N.size ∧ j ≤ m.c.toNat ∧ k = m.c.toNat - j
set_option maxHeartbeats 2000000 in
theorem rcells_iter {M1 Mr : Mem} {X : List Nat} {bl bg bv : Nat} (hXl : bl ∈ X) (hXg : bg ∈ X) {gv lv : Value} {T : List Rc} (hT : ∀ a ∈ T, a.ok) (hTl : T.length ≤ 2 ^ 30) (hrow : ∀ N : Mem, N.get bv = some (.cells (flat T) 26 true) → Sl N lv T) (hXv : bv ∈ X ∨ Mr.get bv = some (.cells (flat T) 26 true)) (hH : Held M1 bl bg bv lv gv T) {G : Gd} {C : Nat} (hG : Gr Mr gv G) (hC : Flush G C) (hC2 : C ≤ 2 ^ 30) (hn : G.length ≤ 2 ^ 20) :
    Iter funs known (ceV bl bg) X Mr M1 (itemsT G T) := by
  intro y I Stop M0 hb e1 Y hr i0
  have hl : ∀ L ∈ G, L.length ≤ 2 ^ 30 := fun L hL => by rw [hC L hL]; exact hC2
  have h0 := hH.ext e1
  have hsz := e1.size
  have lt1 : bl < M0.size := Mem.lt_of_get h0.l
  have lt2 : bg < M0.size := Mem.lt_of_get h0.g
  have lt3 : bv < M0.size := Mem.lt_of_get h0.v
  refine rect_cells_1_wp hb (pt_ld h0.l rfl ?_)
  refine step_lenS (hrow M0 h0.v) ?_
  refine ⟨rect_cells_1_l0_m, c0I M0.size bl bg bv lv gv y G T I M0.base, ⟨T.length, 0, M0, [], rfl, i0, h0, rfl, Nat.le_refl _, Nat.zero_le _, rfl⟩, ?_⟩
  rintro k s ⟨q, N, B, rfl, iN, hN, bN, sN, hi, rfl⟩
  refine rect_cells_1_l0_wp (I := c0I M0.size bl bg bv lv gv y G T I M0.base) (step_lss (wpIf.dec (fun g1 => ?_) (fun g1 => ?_)))
  rotate_left
  · have hi1 : q = T.length := by omega
    subst hi1
    rw [off_all] at iN
    exact rect_cells_1_l0_out ⟨bN, sN, B, .inl iN⟩
  obtain ⟨a, hTa⟩ : ∃ a, T[q]? = some a := ⟨_, List.getElem?_eq_getElem (by omega)⟩
  have ha := hT a (List.mem_of_getElem? hTa)
  have hw := clipped_within hC a
  have hitem := fun i k hi hk => rows_get (fun i k => [posV ((clippedF G a).t + (i : Nat)) ((clippedF G a).l + (k : Nat)), (cellAt G ((clippedF G a).t.toNat + i) ((clippedF G a).l.toNat + k)).val]) (clippedF G a).c.toNat (clippedF G a).r.toNat i k hi hk
  have hit : itemsG G (clippedF G a) = (List.range (clippedF G a).r.toNat).flatMap fun i => (List.range (clippedF G a).c.toNat).map fun k => [posV ((clippedF G a).t + (i : Nat)) ((clippedF G a).l + (k : Nat)), (cellAt G ((clippedF G a).t.toNat + i) ((clippedF G a).l.toNat + k)).val] := rfl
  have htot := items_len G (clippedF G a)
  have hoff := off_succ (G := G) hTa
  have hget := fun n x (hx : (itemsG G (clippedF G a))[n]? = some x) => itemsT_get (G := G) hTa hx
  have kN : N.base ≤ N.size := by omega
  refine rd (hrow N hN.v) (i := (q : Int)) (by omega) (by rw [Int.toNat_natCast]; exact hTa) fun _ => ⟨rfl, fun b4 N5 hb4 hN5 => ⟨⟨rfl, rfl, by decide⟩, fun N6 hN6 => ?_⟩⟩
  have e5 : Ext N N5 := Ext.push' hN5
  have s5 : N5.size = N.size + 1 := by rw [hN5]; rfl
  have e6 : Ext N N6 := hN6 ▸ e5.set (by omega) (by omega) _
  have s6 : N6.size = N5.size := by rw [hN6]; rfl
  have grN := hG.ext (hr _ _ _ iN)
  refine pt_ld (hN.ext e6).g rfl (LGetN.as a.val (by exact Nat.le_refl 4) rfl ?_)
  refine clipped_W (e6.ok kN) (grN.ext e6) hl hn ha fun N10 e10 => ⟨e10.keep _, ⟨rfl, rfl, by exact Nat.le_refl 4⟩, fun N11 hN11 => ?_⟩
  have s10 := e10.size
  have e11 : Ext N N11 := hN11 ▸ (e6.trans e10).set (by omega) (by omega) _
  have s11 : N11.size = N10.size := by rw [hN11]; rfl
  generalize clippedF G a = m at hw hitem hit htot hoff hget hN11 ⊢
  obtain ⟨w1, w2, w3, w4, w5, w6⟩ := hw
  have hkeep : ∀ {P P' : Mem} {B : List Nat} {n : Nat}, M0.size ≤ P.size → I n B P → Ext P P' → I n B P' := fun {P P' B n} hs hI e => Y.mono _ _ _ _ hI ⟨e.base, e.size, fun b hb' => by
    rcases hb' with ⟨h1, _⟩ | h
    · exact e.get b (by omega)
    · exact e.get b (Y.own _ _ _ hI b h).2⟩
  have fin : ∀ (P : Mem) (B : List Nat), I (offT G T q + (itemsG G m).length) B P → Held P bl bg bv lv gv T → P.base = M0.base → M0.size ≤ P.size → ∃ j, j < T.length - q ∧ c0I M0.size bl bg bv lv gv y G T I M0.base j (rect_cells_1_l0_s y (.pointer (some ⟨bg, 0, none⟩)) lv (.int .i64 T.length) (.int .i64 ((q : Int) + 1)) [] P) := by
    intro P B iP hP bP sP
    exact ⟨T.length - (q + 1), by omega, q + 1, P, B, rfl, by rw [hoff]; exact iP, hP, bP, sP, by omega, rfl⟩
  refine LGet.mk (v := .int .i64 m.r) rfl ⟨rect_cells_1_l2_m, c2I M0.size bl bg bv lv gv y T q (offT G T q) m I M0.base b4, ⟨m.r.toNat, 0, N11, B, ?_, ?_, fun h => by have := (Y.own _ _ _ iN b4 h).2; omega, by omega, by omega, hN.ext e11, e11.base.trans bN, by omega, Nat.zero_le _, rfl⟩, ?_⟩
  · rfl
  · rw [Nat.zero_mul, Nat.add_zero]; exact hkeep sN iN e11
  rintro k s ⟨i, P, B', rfl, iP, nB, lB, hB, hP, bP, sP, hi, rfl⟩
  refine rect_cells_1_l2_wp (I := c2I M0.size bl bg bv lv gv y T q (offT G T q) m I M0.base b4) (step_lss (wpIf.dec (fun g2 => ?_) (fun g2 => ?_)))
  rotate_left
  · have hir : i = m.r.toNat := by omega
    subst hir
    refine blockK.hit (blockK.n (seqK.n (rect_cells_1_c1_wp (step_add (by omega) (by omega) (fin P B' ?_ hP bP sP)))))
    rw [htot]; exact iP
  refine LGet.mk (v := .int .i64 m.c) rfl ⟨rect_cells_1_l4_m, c4I M0.size bl bg bv lv gv y T q (offT G T q) m I M0.base b4 i, ⟨m.c.toNat, 0, P, B', ?_, iP, nB, lB, hB, hP, bP, sP, Nat.zero_le _, rfl⟩, ?_⟩
  · rfl
  clear iP nB hB hP bP sP
  rintro k s ⟨j, P, B', rfl, iP, nB, lB, hB, hP, bP, sP, hj, rfl⟩
  refine rect_cells_1_l4_wp (I := c4I M0.size bl bg bv lv gv y T q (offT G T q) m I M0.base b4 i) (step_lss (wpIf.dec (fun g3 => ?_) (fun g3 => ?_)))
  rotate_left
  · have hjc : j = m.c.toNat := by omega
    subst hjc
    refine blockK.hit (blockK.n (seqK.n (rect_cells_1_c3_wp (step_add (by omega) (by omega) ⟨m.r.toNat - (i + 1), by omega, i + 1, P, B', rfl, ?_, nB, lB, hB, hP, bP, sP, by omega, rfl⟩))))
    rw [Nat.add_mul, Nat.one_mul, ← Nat.add_assoc]; exact iP
  have kP : P.base ≤ P.size := by omega
  refine LGet.mk (v := .int .i64 m.t) rfl (step_add (by omega) (by omega) (LGet.mk (v := .int .i64 m.l) rfl (step_add (by omega) (by omega) ⟨posV (m.t + (i : Nat)) (m.l + (j : Nat)), rfl, rfl, fun b7 P8 hb7 hP8 => ⟨⟨rfl, rfl, by decide⟩, fun P9 hP9 => ?_⟩⟩)))
  have e8 : Ext P P8 := Ext.push' hP8
  have s8 : P8.size = P.size + 1 := by rw [hP8]; rfl
  have e9 : Ext P P9 := hP9 ▸ e8.set (by omega) (by omega) _
  have s9 : P9.size = P8.size := by rw [hP9]; rfl
  have iP9 := hkeep sP iP e9
  have grP := hG.ext (hr _ _ _ iP9)
  have hP9' := hP.ext e9
  obtain ⟨L, hL⟩ : ∃ L, G[m.t.toNat + i]? = some L := ⟨_, List.getElem?_eq_getElem (by omega)⟩
  have hLl : L.length = C := hC L (List.mem_of_getElem? hL)
  obtain ⟨ce, hce⟩ : ∃ ce, L[m.l.toNat + j]? = some ce := ⟨_, List.getElem?_eq_getElem (by omega)⟩
  have hat : cellAt G (m.t.toNat + i) (m.l.toNat + j) = ce := by
    unfold cellAt
    rw [getD_some hL, List.getD_eq_getElem?_getD, hce]; rfl
  refine LGetN.as (posV (m.t + (i : Nat)) (m.l + (j : Nat))) (by exact Nat.le_refl 2) rfl (pt_ld hP9'.g rfl (LGet.mk (v := .int .i64 (m.t + (i : Nat))) rfl ?_))
  refine rdG grP (by omega) (by rw [show (m.t + (i : Nat)).toNat = m.t.toNat + i by omega]; exact hL) fun _ xr sx => LGet.mk (v := .int .i64 (m.l + (j : Nat))) rfl ?_
  refine rd sx (by omega) (by rw [show (m.l + (j : Nat)).toNat = m.l.toNat + j by omega]; exact hce) fun _ => ?_
  have hx : (itemsT G T)[offT G T q + i * m.c.toNat + j]? = some [posV (m.t + (i : Nat)) (m.l + (j : Nat)), ce.val] := by
    rw [Nat.add_assoc]
    refine hget _ _ ?_
    rw [hit, hitem i j (by omega) (by omega), hat]
  refine (Y.call _ _ B' P9 hx iP9 (by omega) (by have := e9.base; omega)).mono ?_
  rintro r N' ⟨p1, p2, B'', p3, p4, p5⟩
  have own9 := Y.own _ _ _ iP9
  have nB7 : b7 ∉ B' := fun h => by have := (Y.own _ _ _ iP b7 h).2; omega
  have hkX : ∀ b, b ∈ X → b < M0.size → N'.get b = P9.get b := fun b hb hlt => p4 b (by omega) (fun h => by have := (own9 b h).1; omega) (.inr hb)
  have hP' : Ext Mr N' → Held N' bl bg bv lv gv T := fun eR => ⟨by rw [hkX bl hXl lt1]; exact hP9'.l, by rw [hkX bg hXg lt2]; exact hP9'.g, hXv.elim (fun hx => by rw [hkX bv hx lt3]; exact hP9'.v) (fun hm => eR.same hm)⟩
  have bN' : N'.base = M0.base := by rw [p1, e9.base]; exact bP
  have sN' : M0.size ≤ N'.size := by omega
  refine ⟨fun b hb hlt => ?_, ?_⟩
  · simp only [List.mem_cons, List.not_mem_nil, or_false] at hb
    rcases hb with rfl | rfl
    · exact p4 _ hlt nB (.inl lB)
    · exact p4 _ hlt nB7 (.inl (by omega))
  have nB'' : b4 ∉ B'' := fun h => by
    rcases (p3 b4 h).1 with h | h
    · exact nB h
    · omega
  rcases p5 with ⟨rfl, p5⟩ | ⟨rfl, p5⟩
  · exact ⟨_, rfl, wpIf.ff (step_add (by omega) (by omega) ⟨m.c.toNat - (j + 1), by omega, j + 1, N', B'', rfl, p5, nB'', lB, by omega, hP' (hr _ _ _ p5), bN', sN', by omega, rfl⟩)⟩
  · refine ⟨_, rfl, wpIf.tt ?_⟩
    have done : N'.base = M0.base ∧ M0.size ≤ N'.size ∧ ∃ B, I (itemsT G T).length B N' ∨ Stop B N' := ⟨bN', sN', B'', .inr p5⟩
    exact done
def sumS (p : Int × Int) (c : Ce) : Int × Int := (IntKind.u16.wrap (p.1 - IntKind.u16.wrap (numF c)), joinF p.2 c.label)
def sumG (G : Gd) (a : Rc) : Int × Int := (cellsG G (clippedF G a)).foldl sumS (0, 0)
theorem fold_take {α β : Type} (f : β → α → β) (z : β) {L : List α} {n : Nat} {x : α} (h : L[n]? = some x) : (L.take (n + 1)).foldl f z = f ((L.take n).foldl f z) x := by
  obtain ⟨h1, h2⟩ := List.getElem?_eq_some_iff.1 h
  rw [List.take_succ_eq_append_getElem h1, List.foldl_append, h2]; rfl
theorem rsum_W {M : Mem} (hM : M.base ≤ M.size) {v : Value} {G : Gd} {C : Nat} (h : Gr M v G) (hC : Flush G C) (hC2 : C ≤ 2 ^ 30) (hn : G.length ≤ 2 ^ 20) {a : Rc} (ha : a.ok) (q : ∀ M', Ext M M' → Q (.tuple #[.int .u16 (sumG G a).1, .int .u8 (sumG G a).2]) M') :
    W funs known (.func (.func n_rect_Sum) #[] #[]) [v, a.val] M Q := by
  obtain ⟨ad, cap, rfl⟩ := h.shape
  refine rect_Sum_wp hM ⟨rfl, fun b1 M2 hb1 hM2 => ⟨rfl, fun b3 M4 hb3 hM4 => ⟨rfl, fun b5 M6 hb5 hM6 => ?_⟩⟩⟩
  have e2 : Ext M M2 := Ext.push' hM2
  have s2 : M2.size = M.size + 1 := by rw [hM2]; rfl
  have e4 : Ext M2 M4 := Ext.push' hM4
  have s4 : M4.size = M2.size + 1 := by rw [hM4]; rfl
  have e6 : Ext M4 M6 := Ext.push' hM6
  have s6 : M6.size = M4.size + 1 := by rw [hM6]; rfl
  have g4 : M4.get b3 = some (.cells [.int .u16 0] 45 true) := by rw [hM4, Mem.get_push, if_pos hb3]
  have g6 : M6.get b5 = some (.cells [.int .u8 0] 48 true) := by rw [hM6, Mem.get_push, if_pos hb5]
  have e06 := (e2.trans e4).trans e6
  refine step_lit [a] rfl rfl fun v7 M8 e8 n8 => ⟨e8.keep _, ?_⟩
  have e08 := e06.trans e8
  obtain ⟨bv, sp, rfl, gv, lv⟩ := n8
  have s8 := e8.size
  have lv8 := Mem.lt_of_get gv
  refine rect_cells_wp (e08.ok hM) ⟨rfl, fun bg N2 hbg hN2 => ⟨rfl, fun bl N4 hbl hN4 => ?_⟩⟩
  have f2 : Ext M8 N2 := Ext.push' hN2
  have t2 : N2.size = M8.size + 1 := by rw [hN2]; rfl
  have f4 : Ext N2 N4 := Ext.push' hN4
  have t4 : N4.size = N2.size + 1 := by rw [hN4]; rfl
  have f04 := f2.trans f4
  have eN : Ext M N4 := e08.trans f04
  have hH : Held N4 bl bg bv (.slice (some ⟨bv, 0, sp⟩) 1 1) (.slice ad G.length cap) [a] := ⟨by rw [hN4, Mem.get_push, if_pos hbl]; rfl, f4.same (by rw [hN2, Mem.get_push, if_pos hbg]), f04.same gv⟩
  refine ⟨f04.keep _, ?_⟩
  have hi : Iter funs known (ceV bl bg) [bl, bg, bv] M N4 (itemsG G (clippedF G a)) := by
    have := rcells_iter (Mr := M) (X := [bl, bg, bv]) (T := [a]) (by simp) (by simp) (fun b hb => by rw [List.mem_singleton.1 hb]; exact ha) (by simp) (fun N g => ?_) (.inl (by simp)) hH h hC hC2 hn
    · simpa [itemsT] using this
    · refine ⟨_, 1, rfl, Nat.le_refl _, .inr ⟨bv, 0, sp, rfl, ?_, trivial⟩⟩
      simp only [Mem.loadN, g]
      rfl
  have g3N : N4.get b3 = some (.cells [.int .u16 0] 45 true) := ((e6.trans e8).trans f04).same g4
  have g5N : N4.get b5 = some (.cells [.int .u8 0] 48 true) := (e8.trans f04).same g6
  obtain ⟨cl, hcl⟩ : ∃ cl, cl = cellsG G (clippedF G a) := ⟨_, rfl⟩
  have hlen : (itemsG G (clippedF G a)).length = cl.length := by rw [hcl, items_len]; exact (rows_length _ _ _).symm
  refine range_none (X := [bl, bg, bv]) (Mr := M) (M1 := N4) (items := itemsG G (clippedF G a)) (g := n_rect_cells_1) (first := #[]) (cap := #[.pointer (some ⟨bl, 0, none⟩), .pointer (some ⟨bg, 0, none⟩)]) (Y0 := [])
    (J := fun n B K P => B = [] ∧ K = [⟨b1, Enc.enc a, 26⟩, ⟨b3, [.int .u16 ((cl.take n).foldl sumS (0, 0)).1], 45⟩, ⟨b5, [.int .u8 ((cl.take n).foldl sumS (0, 0)).2], 48⟩] ∧ Ext M P ∧ P.get b3 = some (.cells [.int .u16 ((cl.take n).foldl sumS (0, 0)).1] 45 true))
    (Z := fun _ _ _ _ => False) ?hf ?it ?e1 ?hX ?hY ?len ?Jm ?Zm ?Jr ?Jb ?Zb ?Js ?Zs ?J0 ?body ?done ?zdone
  case hf => rfl
  case it => exact hi
  case e1 => exact Ext.refl _
  case hX =>
    intro b hb
    simp only [List.mem_cons, List.not_mem_nil, or_false] at hb
    refine ⟨by show b < N4.size; omega, ?_⟩
    show b ∉ [b1, b3, b5]
    simp only [List.mem_cons, List.not_mem_nil, or_false, not_or]
    omega
  case hY => intro b hb; cases hb
  case len =>
    intro x hx
    obtain ⟨j, hj⟩ := List.mem_iff_getElem?.1 hx
    obtain ⟨p, c, rfl, _⟩ := item_cell hj
    rfl
  case Jm =>
    rintro n B K P P' ⟨rfl, rfl, eP, gP⟩ hk
    have kg : ∀ b, b < N4.size → b ∉ [bl, bg, bv] → P'.get b = P.get b := fun b hb hne => hk.get b (.inl ⟨hb, hne⟩)
    have hno : ∀ b, b < M.size ∨ b = b3 → b ∉ [bl, bg, bv] := fun b hb => by
      simp only [List.mem_cons, List.not_mem_nil, or_false, not_or]; omega
    exact ⟨rfl, rfl, ⟨hk.base.trans eP.base, Nat.le_trans eP.size hk.size, fun b hb => (kg b (by omega) (hno b (.inl hb))).trans (eP.get b hb)⟩, by rw [kg b3 (by omega) (hno b3 (.inr rfl))]; exact gP⟩
  case Zm => exact fun _ _ _ _ _ h _ => h.elim
  case Jr => exact fun _ _ _ _ h => h.2.2.1
  case Jb => intro _ _ _ _ h; rw [h.1]; simp
  case Zb => exact fun _ _ _ _ h => h.elim
  case Js => intro _ _ _ _ h; rw [h.2.1]; rfl
  case Zs => exact fun _ _ _ _ h => h.elim
  case J0 => exact ⟨rfl, rfl, eN, g3N⟩
  case body =>
    rintro n x B K P hx ⟨rfl, rfl, eP, gP⟩ bP zP kP
    obtain ⟨p, c, rfl, hc⟩ := item_cell hx
    rw [← hcl] at hc
    have zP : N4.size + 2 ≤ P.size := zP
    have hstep := fold_take sumS (0, 0) hc
    generalize (cl.take n).foldl sumS (0, 0) = S at hstep gP ⊢
    obtain ⟨s0, l0⟩ := S
    refine rect_Sum_a1_body ⟨rfl, fun b7 P2 hb7 hP2 => ⟨⟨rfl, rfl, by decide⟩, fun P3 hP3 => ⟨rfl, ?_, fun P4 hag => LGetN.as c.val (by exact Nat.le_refl 14) rfl ?_⟩⟩⟩
    · have e2 : Ext P P2 := Ext.push' hP2
      have : P2.size = P.size + 1 := by rw [hP2]; rfl
      have e3 : Ext P P3 := hP3 ▸ e2.set (by omega) (by omega) _
      exact e3.get _ (by show N4.size + 1 < P.size; omega)
    have w2 : P2.size = P.size + 1 := by rw [hP2]; rfl
    have x2 : Ext P P2 := Ext.push' hP2
    have x3 : Ext P P3 := hP3 ▸ x2.set (by omega) (by omega) _
    have w3 : P3.size = P2.size := by rw [hP3]; rfl
    have hag : Agree (N4.size + 1) P3 P4 := hag
    have w4 := hag.size
    have x4 : ∀ b, b < P.size → b ≠ N4.size + 1 → P4.get b = P.get b := fun b hb hne => (hag.get b hne).trans (x3.get b hb)
    have b4 : P4.base = P.base := hag.base.trans x3.base
    refine number_W (freeze_ok _) fun P7 e7 => ⟨e7.keepF _, step_convW (step_subW ⟨_, rfl, rfl, by decide, fun P10 hP10 => LGet.mk (v := .int .u8 c.label) rfl ?_⟩)⟩
    have t7 := Ext.thaw e7
    have w7 := t7.size
    have bt7 := t7.base
    generalize P7.thaw P4.base = R7 at t7 w7 bt7 hP10
    have w10 : P10.size = R7.size := by rw [hP10]; rfl
    have lt3 : b3 < R7.size := by omega
    have x10 : ∀ b, b < P.size → b ≠ N4.size + 1 → b ≠ b3 → P10.get b = P.get b := fun b hb hne h3 => by
      rw [hP10, Mem.get_set _ _ _ lt3, if_neg h3, t7.get b (by omega)]; exact x4 b hb hne
    have b10 : P10.base = P.base := by rw [hP10]; show R7.base = _; rw [bt7]; exact b4
    have k10 : P10.base ≤ P10.size := by omega
    obtain ⟨v13, P14, h13, e14, s14⟩ := lit2 l0 c.label P10
    refine ⟨v13, P14, h13, e14.keep _, join_W (e14.ok k10) s14 (by simp) fun bb hbb => ⟨KeepB.refl _ _, ?_⟩⟩
    rw [join2 hbb]
    refine ⟨_, rfl, rfl, by decide, fun P17 hP17 => ?_⟩
    have w14 := e14.size
    have lt5 : b5 < P14.size := by omega
    have w17 : P17.size = P14.size := by rw [hP17]; rfl
    have x17 : ∀ b, b < P.size → b ≠ N4.size + 1 → b ≠ b3 → b ≠ b5 → P17.get b = P.get b := fun b hb hne h3 h5 => by
      rw [hP17, Mem.get_set _ _ _ lt5, if_neg h5, e14.get b (by omega)]; exact x10 b hb hne h3
    have b17 : P17.base = P.base := by rw [hP17]; show P14.base = _; rw [e14.base]; exact b10
    have g17 : P17.get b3 = some (.cells [.int .u16 (IntKind.u16.wrap (s0 - IntKind.u16.wrap (numF c)))] 45 true) := by
      rw [hP17, Mem.get_set _ _ _ lt5, if_neg (by omega), e14.get b3 (by omega), hP10, Mem.get_set _ _ _ lt3, if_pos rfl]
    have s17 : P.size ≤ P17.size := by omega
    refine ⟨?_, ⟨b17, s17, fun b hb hno => ?_⟩, [], by simp, .inl ⟨rfl, rfl, ?_, ?_, ?_⟩⟩
    · show P17.get (N4.size + 1) = P4.get (N4.size + 1)
      rw [hP17, Mem.get_set _ _ _ lt5, if_neg (by omega), e14.get _ (by omega), hP10, Mem.get_set _ _ _ lt3, if_neg (by omega), t7.get _ (by omega)]
    · have hno : ¬ (b = N4.size + 1 ∨ b ∈ [b1, b3, b5] ∨ b ∈ ([] : List Nat) ∨ b ∈ ([] : List Nat)) := hno
      simp only [List.mem_cons, List.not_mem_nil, or_false, not_or] at hno
      exact x17 b hb hno.1 hno.2.2.1 hno.2.2.2
    · rw [hstep]; rfl
    · exact ⟨b17.trans eP.base, Nat.le_trans eP.size s17, fun b hb => (x17 b (by have := eP.size; omega) (by omega) (by omega) (by omega)).trans (eP.get b hb)⟩
    · rw [hstep]; exact g17
  case done =>
    rintro B K P ⟨rfl, rfl, eP, gP⟩ bP zP gd
    rw [hlen, List.take_length] at gP
    have zP : N4.size + 2 ≤ P.size := zP
    have hS : cl.foldl sumS (0, 0) = sumG G a := by rw [hcl]; rfl
    simp only [hlen, List.take_length, hS]
    rw [hS] at gP
    generalize sumG G a = S at gP q ⊢
    refine rect_Sum_a1_out (rect_Sum_c0_wp ⟨undef, P.freeze, ?_, KeepB.refl _ _, _, rfl, rfl, by decide, fun M3 hM3 => ?_⟩)
    · have hbb : ¬ P.freeze.base ≤ b3 := by show ¬ P.size ≤ b3; omega
      have hst : P.freeze.storeN b3 0 [.int .u16 S.1] = none := by
        unfold Mem.storeN
        show (match P.get b3 with | some (.cells c t true) => if P.size ≤ b3 ∧ 0 + 1 ≤ c.length then some (P.freeze.set b3 (.cells (splice c 0 [.int .u16 S.1]) t true)) else none | _ => none) = none
        rw [gP]; exact if_neg (fun h => by omega)
      have hsm : P.freeze.sameN b3 0 [.int .u16 S.1] = true := by
        unfold Mem.sameN
        show (match P.get b3 with | some (.cells c _ true) => decide (0 + 1 ≤ c.length) && sameL [.int .u16 S.1] ((c.drop 0).take 1) | _ => false) = true
        rw [gP]
        show (decide (0 + 1 ≤ 1) && ((decide (IntKind.u16 = IntKind.u16) && decide (S.1 = S.1)) && true)) = true
        simp
      have hq : P.freeze.storeQ b3 0 [.int .u16 S.1] = some P.freeze := by unfold Mem.storeQ; rw [hst, hsm]; rfl
      show (if (Value.cells (.int .u16 S.1)).size = 1 ∧ notTup (.int .u16 S.1) = true then (P.freeze.storeQ b3 0 [.int .u16 S.1]).map fun M' => (undef, M') else none) = some (undef, P.freeze)
      rw [hq]; rfl
    · have hM3' : M3 = P.set b5 (.cells [.int .u8 S.2] 48 true) := hM3
      have lt5 : b5 < P.size := by omega
      have eP5 : Ext M M3 := hM3' ▸ eP.set_new (by omega) lt5 _
      have s3 : M3.size = P.size := by rw [hM3']; rfl
      have gdd : M3.get N4.size = some .dblk := by rw [hM3', Mem.get_set _ _ _ lt5, if_neg (by omega)]; exact gd
      have b3' : M3.base = P.base := by rw [hM3']; rfl
      obtain ⟨N', k1, k2, k3, k4⟩ := kill_ok [N4.size] M3 (fun d hd => by
        rw [List.mem_singleton] at hd; subst hd
        refine ⟨?_, gdd⟩
        have := eP.base
        have := eN.size
        omega) (by simp)
      refine (retK_ds ⟨N', k1, ?_⟩).2
      exact q N' ⟨k2.trans eP5.base, by have := eP5.size; omega, fun b hb => (k4 b (by simp only [List.mem_singleton]; have := eN.size; omega)).trans (eP5.get b hb)⟩
  case zdone => exact fun _ _ _ _ h => h.elim
end
end Go.Proofs.Ytklnbkacnghdnaa.Run
