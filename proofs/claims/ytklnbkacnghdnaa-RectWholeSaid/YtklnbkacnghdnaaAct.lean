/- What an act does to a grid. -/
import Derived.Test.YtklnbkacnghdnaaRectP
import Derived.Test.YtklnbkacnghdnaaVcA
import Derived.Test.YtklnbkacnghdnaaVcD
namespace Go.Proofs.Ytklnbkacnghdnaa.Run
open Go Go.RowKit
set_option linter.unusedVariables false
set_option linter.unusedSimpArgs false
structure An where
  what : Int
  t : Int
  l : Int
  r : Int
  c : Int
  row : Int
  col : Int
  d : Dr
  runes : Int
instance : Enc An := ⟨13, fun a => [.int .u8 a.what, .int .i64 a.t, .int .i64 a.l, .int .i64 a.r, .int .i64 a.c, .int .i64 a.row, .int .i64 a.col, .int .u8 a.d.rune, .int .u8 a.d.marks, .int .u8 a.d.attr, .bool a.d.wide, .bool a.d.high, .int .u8 a.runes], fun _ => rfl, by decide⟩
abbrev An.val (a : An) : Value := .agg (Enc.enc a).toArray
structure An.ok (a : An) : Prop where
  what : 0 ≤ a.what ∧ a.what ≤ 255
  t : I64 a.t
  l : I64 a.l
  r : I64 a.r
  c : I64 a.c
  row : I64 a.row
  col : I64 a.col
  d : a.d.ok
  runes : 0 ≤ a.runes ∧ a.runes ≤ 255
theorem step_remT {P : Value → Prop} {k : IntKind} {x y : Int} (hy : y ≠ 0) (p : P (.int k (x.tmod y))) : ∃ v, binV .rem 0 [] (.int k x) (.int k y) = some v ∧ P v :=
  ⟨.int k (x.tmod y), by simp only [binV, isShift, Bool.false_eq_true, if_false, if_true, intOp, if_neg hy], p⟩
theorem tmod_bound (x y : Int) (hy : 0 < y) : -y < x.tmod y ∧ x.tmod y < y := by
  rcases Int.le_total 0 x with h | h
  · rw [Int.tmod_eq_emod_of_nonneg h]
    have := Int.emod_nonneg x (show y ≠ 0 by omega)
    have := Int.emod_lt_of_pos x hy
    omega
  · have : x.tmod y = -((-x).tmod y) := by rw [Int.neg_tmod]; omega
    rw [this, Int.tmod_eq_emod_of_nonneg (by omega)]
    have := Int.emod_nonneg (-x) (show y ≠ 0 by omega)
    have := Int.emod_lt_of_pos (-x) hy
    omega
def smallF (n : Int) : Int := if n.tmod 16 = 15 then n else (n.tmod 14 + 14).tmod 14 - 2
theorem small_ok {n : Int} (h : I64 n) : I64 (smallF n) := by
  unfold smallF
  split
  · exact h
  · have := tmod_bound (n.tmod 14 + 14) 14 (by decide)
    exact ⟨by omega, by omega⟩
def An.rect (a : An) : Rc := ⟨smallF a.t, smallF a.l, smallF a.r, smallF a.c⟩
theorem An.ok.rect {a : An} (h : a.ok) : a.rect.ok := ⟨small_ok h.t, small_ok h.l, small_ok h.r, small_ok h.c⟩
section
variable {M : Mem} {Q : Value → Mem → Prop}
theorem small_W (hM : M.base ≤ M.size) {n : Int} (q : Q (.int .i64 (smallF n)) M) : W funs known (.func (.func n_law12_small) #[] #[]) [.int .i64 n] M Q := by
  have h1 := tmod_bound n 14 (by decide)
  have h2 := tmod_bound (n.tmod 14 + 14) 14 (by decide)
  refine law12_small_wp hM (step_remT (by decide) (step_eql (wpIf.dec (fun h => ?_) (fun h => ?_))))
  · unfold smallF at q; rwa [if_pos h] at q
  · unfold smallF at q
    rw [if_neg h] at q
    exact step_remT (by decide) (step_add (by omega) (by omega) (step_remT (by decide) (step_sub (by omega) (by omega) q)))
theorem rect1_W (hM : M.base ≤ M.size) {a : An} (q : ∀ M', Ext M M' → Q a.rect.val M') : W funs known (.func (.func n_law12_Act_rect1) #[] #[]) [a.val] M Q := by
  refine law12_Act_rect1_wp hM ⟨rfl, fun b1 M2 hb1 hM2 => ⟨rfl, fun b3 M4 hb3 hM4 => ?_⟩⟩
  have e4 : Ext M M4 := (Ext.push' hM2).trans (Ext.push' hM4)
  have s2 : M2.size = M.size + 1 := by rw [hM2]; rfl
  have s4 : M4.size = M2.size + 1 := by rw [hM4]; rfl
  refine small_W (freeze_ok _) ⟨fun _ _ _ => rfl, small_W (freeze_ok _) ⟨fun _ _ _ => rfl, small_W (freeze_ok _) ⟨fun _ _ _ => rfl, small_W (e4.ok hM) ⟨fun _ _ _ => rfl, a.rect.val, rfl, ⟨rfl, rfl, by decide⟩, fun M14 hM14 => LGetN.as a.rect.val (by exact Nat.le_refl 4) rfl (q _ (hM14 ▸ e4.set (by omega) (by omega) _))⟩⟩⟩⟩
theorem to_W (hM : M.base ≤ M.size) {a : An} (q : ∀ M', Ext M M' → Q (.agg #[.int .i64 (smallF a.row), .int .i64 (smallF a.col)]) M') : W funs known (.func (.func n_law12_Act_to) #[] #[]) [a.val] M Q := by
  refine law12_Act_to_wp hM ⟨rfl, fun b1 M2 hb1 hM2 => ⟨rfl, fun b3 M4 hb3 hM4 => ?_⟩⟩
  have e4 : Ext M M4 := (Ext.push' hM2).trans (Ext.push' hM4)
  have s2 : M2.size = M.size + 1 := by rw [hM2]; rfl
  have s4 : M4.size = M2.size + 1 := by rw [hM4]; rfl
  refine small_W (freeze_ok _) ⟨fun _ _ _ => rfl, small_W (e4.ok hM) ⟨fun _ _ _ => rfl, .agg #[.int .i64 (smallF a.row), .int .i64 (smallF a.col)], rfl, ⟨rfl, rfl, by decide⟩, fun M14 hM14 => LGetN.as (.agg #[.int .i64 (smallF a.row), .int .i64 (smallF a.col)]) (by exact Nat.le_refl 2) rfl (q _ (hM14 ▸ e4.set (by omega) (by omega) _))⟩⟩
theorem works12_W {M : Mem} (h : Q (.bool true) M) : W funs known (.func (.func n_law12_works) #[] #[]) [] M Q := W_known rfl h
theorem grid_flush (c : Int) (T : Lns) : Flush (gridF c T) (c % 31).toNat := by
  intro L hL
  obtain ⟨p, _, rfl⟩ := List.mem_map.1 hL
  rw [rowF_len]
  have : c % 31 % 31 = c % 31 := by omega
  rw [this]
end
end Go.Proofs.Ytklnbkacnghdnaa.Run
namespace Go.Proofs.Ytklnbkacnghdnaa.Run
open Go Go.RowKit
set_option linter.unusedVariables false
set_option linter.unusedSimpArgs false
structure Rn where
  n : Int
instance : Enc Rn := ⟨1, fun a => [.int .i32 a.n], fun _ => rfl, by decide⟩
def odds : List Rn := [⟨0⟩, ⟨7⟩, ⟨20013⟩, ⟨769⟩]
def acellF (a : An) : Ce := if a.runes % 8 = 7 then { cellF a.d with rune := ((odds.getD (a.runes / 8 % 4).toNat ⟨0⟩).n) } else cellF a.d
theorem acell_rune {a : An} (h : a.ok) : fillOK (acellF a).rune := by
  unfold acellF
  split
  · right
    have : (a.runes / 8 % 4).toNat = 0 ∨ (a.runes / 8 % 4).toNat = 1 ∨ (a.runes / 8 % 4).toNat = 2 ∨ (a.runes / 8 % 4).toNat = 3 := by omega
    simp only
    rcases this with e | e | e | e <;> rw [e] <;> simp [odds]
  · left
    have := Int.emod_nonneg a.d.rune (show (26 : Int) ≠ 0 by decide)
    have := Int.emod_lt_of_pos a.d.rune (show (0 : Int) < 26 by decide)
    show 97 ≤ 97 + a.d.rune % 26 ∧ 97 + a.d.rune % 26 ≤ 122
    omega
def doesG (a : An) (G : Gd) : Gd :=
  if a.what % 8 = 0 ∨ a.what % 8 = 1 then fillG G a.rect (acellF a)
  else if a.what % 8 = 2 ∨ a.what % 8 = 3 then eraseG G a.rect (blankF (acellF a).attr (acellF a).label)
  else copyG G a.rect (smallF a.row) (smallF a.col)
theorem doesG_len (a : An) (G : Gd) : (doesG a G).length = G.length := by
  unfold doesG
  split
  · exact fillG_len ..
  · split
    · exact eraseG_len ..
    · exact copyG_len ..
theorem does_flush {G : Gd} {C : Nat} (hC : Flush G C) (a : An) : Flush (doesG a G) C := by
  unfold doesG
  split
  · exact fill_flush hC _ _
  · split
    · exact erase_flush hC _ _
    · exact copy_flush hC _ _ _
section
variable {M : Mem} {Q : Value → Mem → Prop}
theorem acell_W (hM : M.base ≤ M.size) {a : An} (ha : a.ok) (q : ∀ M', Ext M M' → Q (acellF a).val M') : W funs known (.func (.func n_law12_Act_cell) #[] #[]) [a.val] M Q := by
  refine law12_Act_cell_wp hM ⟨rfl, fun b1 M2 hb1 hM2 => ⟨rfl, fun b3 M4 hb3 hM4 => ?_⟩⟩
  have e4 : Ext M M4 := (Ext.push' hM2).trans (Ext.push' hM4)
  have s2 : M2.size = M.size + 1 := by rw [hM2]; rfl
  have s4 : M4.size = M2.size + 1 := by rw [hM4]; rfl
  have hr := ha.runes
  refine cell_W (e4.ok hM) ha.d fun M6 e6 => ⟨e6.keep _, rfl, fun b7 M8 hb7 hM8 => ⟨⟨rfl, rfl, by decide⟩, fun M9 hM9 => ?_⟩⟩
  have s6 := e6.size
  have e8 : Ext M M8 := (e4.trans e6).trans (Ext.push' hM8)
  have s8 : M8.size = M6.size + 1 := by rw [hM8]; rfl
  have e9 : Ext M M9 := hM9 ▸ e8.set (by omega) (by omega) _
  have s9 : M9.size = M8.size := by rw [hM9]; rfl
  refine step_rem8 (by omega) (by omega) (step_eql (wpIf.dec (fun h => ?_) (fun h => ?_)))
  · refine step_lit odds rfl rfl fun v12 M13 e13 n13 => ⟨e13.keep _, step_quo8 (by omega) (by omega) (by omega) (step_rem8 (by omega) (by omega) ?_)⟩
    have s13 := e13.size
    have hk : (a.runes / 8 % 4).toNat < 4 := by omega
    obtain ⟨x, hx⟩ : ∃ x, odds[(a.runes / 8 % 4).toNat]? = some x := ⟨_, List.getElem?_eq_getElem (by show _ < 4; omega)⟩
    have hF : acellF a = { cellF a.d with rune := x.n } := by
      unfold acellF
      rw [if_pos h, List.getD_eq_getElem?_getD, hx]; rfl
    rw [hF] at q
    refine rd1 n13.sl (by omega) hx rfl fun _ => ⟨_, rfl, rfl, by exact Nat.lt_of_lt_of_le (by decide) (Nat.le_refl 14), fun M18 hM18 => ?_⟩
    have e18 : Ext M M18 := hM18 ▸ (e9.trans e13).set (by omega) (by omega) _
    have s18 : M18.size = M13.size := by rw [hM18]; rfl
    refine LGetN.as ({ cellF a.d with rune := x.n } : Ce).val (by exact Nat.le_refl 14) rfl ⟨⟨rfl, rfl, by decide⟩, fun M21 hM21 => LGetN.as ({ cellF a.d with rune := x.n } : Ce).val (by exact Nat.le_refl 14) rfl (q _ (hM21 ▸ e18.set (by omega) (by omega) _))⟩
  · have hF : acellF a = cellF a.d := by unfold acellF; rw [if_neg h]
    rw [hF] at q
    refine LGetN.as (cellF a.d).val (by exact Nat.le_refl 14) rfl ⟨⟨rfl, rfl, by decide⟩, fun M21 hM21 => LGetN.as (cellF a.d).val (by exact Nat.le_refl 14) rfl (q _ (hM21 ▸ e9.set (by omega) (by omega) _))⟩
theorem does_W (hM : M.base ≤ M.size) {a : An} (ha : a.ok) {v : Value} {G : Gd} {C : Nat} (h : Gr M v G) (hC : Flush G C) (hC2 : C ≤ 2 ^ 30) (hn : G.length ≤ 2 ^ 20) (q : ∀ M' r, Ext M M' → GrN M M' r (doesG a G) → Q r M') : W funs known (.func (.func n_law12_Act_does) #[] #[]) [a.val, v] M Q := by
  obtain ⟨ad, cap, rfl⟩ := h.shape
  have hw := ha.what
  refine law12_Act_does_wp hM ⟨rfl, fun b1 M2 hb1 hM2 => step_rem8 (by omega) (by omega) ?_⟩
  have e2 : Ext M M2 := Ext.push' hM2
  refine step_eql (wpIf.dec (fun c0 => ?_) (fun c0 => step_eql (wpIf.dec (fun c1 => ?_) (fun c1 => step_eql (wpIf.dec (fun c2 => ?_) (fun c2 => step_eql (wpIf.dec (fun c3 => ?_) (fun c3 => ?_))))))))
  · skip
    refine rect1_W (freeze_ok _) fun M6 e6 => ⟨e6.keepF _, ?_⟩
    have t6 := e2.trans (Ext.thaw e6)
    refine acell_W (t6.ok hM) ha fun M8 e8 => ⟨e8.keep _, ?_⟩
    have t8 := t6.trans e8
    refine fill_W (t8.ok hM) (h.ext t8) hC hC2 hn ha.rect (acell_rune ha) fun M10 r e10 n10 => ⟨e10.keep _, q M10 r (t8.trans e10) ?_⟩
    unfold doesG; rw [if_pos (.inl c0)]; exact n10.old t8
  · skip
    refine rect1_W (freeze_ok _) fun M6 e6 => ⟨e6.keepF _, ?_⟩
    have t6 := e2.trans (Ext.thaw e6)
    refine acell_W (t6.ok hM) ha fun M8 e8 => ⟨e8.keep _, ?_⟩
    have t8 := t6.trans e8
    refine fill_W (t8.ok hM) (h.ext t8) hC hC2 hn ha.rect (acell_rune ha) fun M10 r e10 n10 => ⟨e10.keep _, q M10 r (t8.trans e10) ?_⟩
    unfold doesG; rw [if_pos (.inr c1)]; exact n10.old t8
  · skip
    refine rect1_W (freeze_ok _) fun M6 e6 => ⟨e6.keepF _, ?_⟩
    have t6 := e2.trans (Ext.thaw e6)
    refine acell_W (freeze_ok _) ha fun M8 e8 => ⟨e8.keepF _, .agg (acellF a).attr.cells.toArray, rfl, ?_⟩
    have t8 := t6.trans (Ext.thaw e8)
    refine acell_W (t8.ok hM) ha fun M10 e10 => ⟨e10.keep _, .int .u8 (acellF a).label, rfl, ?_⟩
    have t10 := t8.trans e10
    refine blank_W (t10.ok hM) fun M12 e12 => ⟨e12.keep _, ?_⟩
    have t12 := t10.trans e12
    refine erect_W (t12.ok hM) (h.ext t12) hC hC2 hn ha.rect fun M14 r e14 n14 => ⟨e14.keep _, q M14 r (t12.trans e14) ?_⟩
    unfold doesG; rw [if_neg (by omega), if_pos (.inl c2)]; exact n14.old t12
  · skip
    refine rect1_W (freeze_ok _) fun M6 e6 => ⟨e6.keepF _, ?_⟩
    have t6 := e2.trans (Ext.thaw e6)
    refine acell_W (freeze_ok _) ha fun M8 e8 => ⟨e8.keepF _, .agg (acellF a).attr.cells.toArray, rfl, ?_⟩
    have t8 := t6.trans (Ext.thaw e8)
    refine acell_W (t8.ok hM) ha fun M10 e10 => ⟨e10.keep _, .int .u8 (acellF a).label, rfl, ?_⟩
    have t10 := t8.trans e10
    refine blank_W (t10.ok hM) fun M12 e12 => ⟨e12.keep _, ?_⟩
    have t12 := t10.trans e12
    refine erect_W (t12.ok hM) (h.ext t12) hC hC2 hn ha.rect fun M14 r e14 n14 => ⟨e14.keep _, q M14 r (t12.trans e14) ?_⟩
    unfold doesG; rw [if_neg (by omega), if_pos (.inr c3)]; exact n14.old t12
  · refine rect1_W (freeze_ok _) fun M6 e6 => ⟨e6.keepF _, ?_⟩
    have t6 := e2.trans (Ext.thaw e6)
    refine to_W (t6.ok hM) fun M8 e8 => ⟨e8.keep _, ?_⟩
    have t8 := t6.trans e8
    refine rcopy_W (t8.ok hM) (h.ext t8) hC hC2 hn ha.rect (small_ok ha.row) (small_ok ha.col) fun M10 r e10 n10 => ⟨e10.keep _, q M10 r (t8.trans e10) ?_⟩
    unfold doesG; rw [if_neg (by omega), if_neg (by omega)]; exact n10.old t8
end
end Go.Proofs.Ytklnbkacnghdnaa.Run
