/- What an act does to a grid. -/
import Derived.Test.YtklnbkacnghdnaaAct
import Derived.Test.YtklnbkacnghdnaaVcD
namespace Go.Proofs.Ytklnbkacnghdnaa.Run
open Go Go.RowKit
set_option linter.unusedVariables false
set_option linter.unusedSimpArgs false

/-- a rune -/
structure Rn where
  n : Int
instance : Enc Rn := ⟨1, fun a => [.int .i32 a.n], fun _ => rfl, by decide⟩
def odds : List Rn := [⟨0⟩, ⟨7⟩, ⟨20013⟩, ⟨769⟩]
def acellF (a : An) : Ce := if a.runes % 8 = 7 then { cellF a.d with rune := ((odds.getD (a.runes / 8 % 4).toNat ⟨0⟩).n) } else cellF a.d
theorem acell_rune {a : An} (h : a.ok) : fillOK (acellF a).rune := by
  unfold acellF
  split
  · right
    have : (a.runes / 8 % 4).toNat = 0 ∨ (a.runes / 8 % 4).toNat = 1 ∨ (a.runes / 8 % 4).toNat = 2 ∨ (a.runes / 8 % 4).toNat = 3 := by omega
    simp only
    rcases this with e | e | e | e <;> rw [e] <;> simp [odds]
  · left
    have := Int.emod_nonneg a.d.rune (show (26 : Int) ≠ 0 by decide)
    have := Int.emod_lt_of_pos a.d.rune (show (0 : Int) < 26 by decide)
    show 97 ≤ 97 + a.d.rune % 26 ∧ 97 + a.d.rune % 26 ≤ 122
    omega
def doesG (a : An) (G : Gd) : Gd :=
  if a.what % 8 = 0 ∨ a.what % 8 = 1 then fillG G a.rect (acellF a)
  else if a.what % 8 = 2 ∨ a.what % 8 = 3 then eraseG G a.rect (blankF (acellF a).attr (acellF a).label)
  else copyG G a.rect (smallF a.row) (smallF a.col)
theorem doesG_len (a : An) (G : Gd) : (doesG a G).length = G.length := by
  unfold doesG
  split
  · exact fillG_len ..
  · split
    · exact eraseG_len ..
    · exact copyG_len ..
theorem does_flush {G : Gd} {C : Nat} (hC : Flush G C) (a : An) : Flush (doesG a G) C := by
  unfold doesG
  split
  · exact fill_flush hC _ _
  · split
    · exact erase_flush hC _ _
    · exact copy_flush hC _ _ _

section
variable {M : Mem} {Q : Value → Mem → Prop}
theorem acell_W (hM : M.base ≤ M.size) {a : An} (ha : a.ok) (q : ∀ M', Ext M M' → Q (acellF a).val M') : W funs known (.func (.func n_law12_Act_cell) #[] #[]) [a.val] M Q := by
  refine law12_Act_cell_wp hM ⟨rfl, fun b1 M2 hb1 hM2 => ⟨rfl, fun b3 M4 hb3 hM4 => ?_⟩⟩
  have e4 : Ext M M4 := (Ext.push' hM2).trans (Ext.push' hM4)
  have s2 : M2.size = M.size + 1 := by rw [hM2]; rfl
  have s4 : M4.size = M2.size + 1 := by rw [hM4]; rfl
  have hr := ha.runes
  refine cell_W (e4.ok hM) ha.d fun M6 e6 => ⟨e6.keep _, rfl, fun b7 M8 hb7 hM8 => ⟨⟨rfl, rfl, by decide⟩, fun M9 hM9 => ?_⟩⟩
  have s6 := e6.size
  have e8 : Ext M M8 := (e4.trans e6).trans (Ext.push' hM8)
  have s8 : M8.size = M6.size + 1 := by rw [hM8]; rfl
  have e9 : Ext M M9 := hM9 ▸ e8.set (by omega) (by omega) _
  have s9 : M9.size = M8.size := by rw [hM9]; rfl
  refine step_rem8 (by omega) (by omega) (step_eql (wpIf.dec (fun h => ?_) (fun h => ?_)))
  · refine step_lit odds rfl rfl fun v12 M13 e13 n13 => ⟨e13.keep _, step_quo8 (by omega) (by omega) (by omega) (step_rem8 (by omega) (by omega) ?_)⟩
    have s13 := e13.size
    have hk : (a.runes / 8 % 4).toNat < 4 := by omega
    obtain ⟨x, hx⟩ : ∃ x, odds[(a.runes / 8 % 4).toNat]? = some x := ⟨_, List.getElem?_eq_getElem (by show _ < 4; omega)⟩
    have hF : acellF a = { cellF a.d with rune := x.n } := by
      unfold acellF
      rw [if_pos h, List.getD_eq_getElem?_getD, hx]; rfl
    rw [hF] at q
    refine rd1 n13.sl (by omega) hx rfl fun _ => ⟨_, rfl, rfl, by exact Nat.lt_of_lt_of_le (by decide) (Nat.le_refl 14), fun M18 hM18 => ?_⟩
    have e18 : Ext M M18 := hM18 ▸ (e9.trans e13).set (by omega) (by omega) _
    have s18 : M18.size = M13.size := by rw [hM18]; rfl
    refine LGetN.as ({ cellF a.d with rune := x.n } : Ce).val (by exact Nat.le_refl 14) rfl ⟨⟨rfl, rfl, by decide⟩, fun M21 hM21 => LGetN.as ({ cellF a.d with rune := x.n } : Ce).val (by exact Nat.le_refl 14) rfl (q _ (hM21 ▸ e18.set (by omega) (by omega) _))⟩
  · have hF : acellF a = cellF a.d := by unfold acellF; rw [if_neg h]
    rw [hF] at q
    refine LGetN.as (cellF a.d).val (by exact Nat.le_refl 14) rfl ⟨⟨rfl, rfl, by decide⟩, fun M21 hM21 => LGetN.as (cellF a.d).val (by exact Nat.le_refl 14) rfl (q _ (hM21 ▸ e9.set (by omega) (by omega) _))⟩

theorem does_W (hM : M.base ≤ M.size) {a : An} (ha : a.ok) {v : Value} {G : Gd} {C : Nat} (h : Gr M v G) (hC : Flush G C) (hC2 : C ≤ 2 ^ 30) (hn : G.length ≤ 2 ^ 20) (q : ∀ M' r, Ext M M' → GrN M M' r (doesG a G) → Q r M') : W funs known (.func (.func n_law12_Act_does) #[] #[]) [a.val, v] M Q := by
  obtain ⟨ad, cap, rfl⟩ := h.shape
  have hw := ha.what
  refine law12_Act_does_wp hM ⟨rfl, fun b1 M2 hb1 hM2 => step_rem8 (by omega) (by omega) ?_⟩
  have e2 : Ext M M2 := Ext.push' hM2
  refine step_eql (wpIf.dec (fun c0 => ?_) (fun c0 => step_eql (wpIf.dec (fun c1 => ?_) (fun c1 => step_eql (wpIf.dec (fun c2 => ?_) (fun c2 => step_eql (wpIf.dec (fun c3 => ?_) (fun c3 => ?_))))))))
  · skip
    refine rect1_W (freeze_ok _) fun M6 e6 => ⟨e6.keepF _, ?_⟩
    have t6 := e2.trans (Ext.thaw e6)
    refine acell_W (t6.ok hM) ha fun M8 e8 => ⟨e8.keep _, ?_⟩
    have t8 := t6.trans e8
    refine fill_W (t8.ok hM) (h.ext t8) hC hC2 hn ha.rect (acell_rune ha) fun M10 r e10 n10 => ⟨e10.keep _, q M10 r (t8.trans e10) ?_⟩
    unfold doesG; rw [if_pos (.inl c0)]; exact n10.old t8
  · skip
    refine rect1_W (freeze_ok _) fun M6 e6 => ⟨e6.keepF _, ?_⟩
    have t6 := e2.trans (Ext.thaw e6)
    refine acell_W (t6.ok hM) ha fun M8 e8 => ⟨e8.keep _, ?_⟩
    have t8 := t6.trans e8
    refine fill_W (t8.ok hM) (h.ext t8) hC hC2 hn ha.rect (acell_rune ha) fun M10 r e10 n10 => ⟨e10.keep _, q M10 r (t8.trans e10) ?_⟩
    unfold doesG; rw [if_pos (.inr c1)]; exact n10.old t8
  · skip
    refine rect1_W (freeze_ok _) fun M6 e6 => ⟨e6.keepF _, ?_⟩
    have t6 := e2.trans (Ext.thaw e6)
    refine acell_W (freeze_ok _) ha fun M8 e8 => ⟨e8.keepF _, .agg (acellF a).attr.cells.toArray, rfl, ?_⟩
    have t8 := t6.trans (Ext.thaw e8)
    refine acell_W (t8.ok hM) ha fun M10 e10 => ⟨e10.keep _, .int .u8 (acellF a).label, rfl, ?_⟩
    have t10 := t8.trans e10
    refine blank_W (t10.ok hM) fun M12 e12 => ⟨e12.keep _, ?_⟩
    have t12 := t10.trans e12
    refine erect_W (t12.ok hM) (h.ext t12) hC hC2 hn ha.rect fun M14 r e14 n14 => ⟨e14.keep _, q M14 r (t12.trans e14) ?_⟩
    unfold doesG; rw [if_neg (by omega), if_pos (.inl c2)]; exact n14.old t12
  · skip
    refine rect1_W (freeze_ok _) fun M6 e6 => ⟨e6.keepF _, ?_⟩
    have t6 := e2.trans (Ext.thaw e6)
    refine acell_W (freeze_ok _) ha fun M8 e8 => ⟨e8.keepF _, .agg (acellF a).attr.cells.toArray, rfl, ?_⟩
    have t8 := t6.trans (Ext.thaw e8)
    refine acell_W (t8.ok hM) ha fun M10 e10 => ⟨e10.keep _, .int .u8 (acellF a).label, rfl, ?_⟩
    have t10 := t8.trans e10
    refine blank_W (t10.ok hM) fun M12 e12 => ⟨e12.keep _, ?_⟩
    have t12 := t10.trans e12
    refine erect_W (t12.ok hM) (h.ext t12) hC hC2 hn ha.rect fun M14 r e14 n14 => ⟨e14.keep _, q M14 r (t12.trans e14) ?_⟩
    unfold doesG; rw [if_neg (by omega), if_pos (.inr c3)]; exact n14.old t12
  · refine rect1_W (freeze_ok _) fun M6 e6 => ⟨e6.keepF _, ?_⟩
    have t6 := e2.trans (Ext.thaw e6)
    refine to_W (t6.ok hM) fun M8 e8 => ⟨e8.keep _, ?_⟩
    have t8 := t6.trans e8
    refine rcopy_W (t8.ok hM) (h.ext t8) hC hC2 hn ha.rect (small_ok ha.row) (small_ok ha.col) fun M10 r e10 n10 => ⟨e10.keep _, q M10 r (t8.trans e10) ?_⟩
    unfold doesG; rw [if_neg (by omega), if_neg (by omega)]; exact n10.old t8
end
end Go.Proofs.Ytklnbkacnghdnaa.Run
