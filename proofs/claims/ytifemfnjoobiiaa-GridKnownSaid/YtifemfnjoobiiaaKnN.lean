/- What the grid's functions answer of no grid; the level of a grid. -/
import Derived.Test.YtifemfnjoobiiaaRange
import Derived.Test.YtifemfnjoobiiaaWorks
import Derived.Test.YtifemfnjoobiiaaGridP
namespace Go.Proofs.Ytifemfnjoobiiaa.Run
open Go Go.RowKit
set_option linter.unusedVariables false
set_option maxRecDepth 100000
theorem grid_Grid_Text_wp {a0 : Option Addr} {h0 h1 h2 : MCode} {M : Mem} {Q : Value → Mem → Prop} (hM : M.base ≤ M.size) (h : (notTup (.slice none 0 0) = true ∧ ∀ (b1 : Nat) (M2 : Mem), b1 = M.size → M2 = M.push (.cells [(.slice none 0 0)] 82 true) → (notTup .nilFunc = true ∧ ∀ (b3 : Nat) (M4 : Mem), b3 = M2.size → M4 = M2.push (.cells [.nilFunc] 101 true) → (∃ v6, (Value.cells (.func (.func n_row_Text) #[] #[])) = #[v6] ∧ notTup (.func (.func n_row_Text) #[] #[]) = true ∧ (0 < 1 ∧ ∀ (M5 : Mem), M5 = M4.set b3 (.cells [v6] 101 true) → (W funs known (.func (.func n_grid_Grid_all) #[] #[]) [(.pointer a0)] M5 (fun r7 M8 => (KeepB [b1, b3] M5 M8 ∧ (RangeW funs known none (.rangeFunc (.tmp 7) [8, 9] h0 h1) ⟨((.v (.pointer a0)) :: uv :: (.loc 0 0) :: (.loc 1 0) :: uv :: uv :: (.v (.pointer a0)) :: (.v r7) :: nU8 (uv :: [])), [⟨b1, [(.slice none 0 0)], 82⟩, ⟨b3, [v6], 101⟩], [], M8⟩ (blockK 0 (seqK (fun s => wpC funs known none h2 s (retK mf37 Q)) (retK mf37 Q)))))))))))) (e_h0 : h0 = grid_Grid_Text_a1 := by rfl) (e_h1 : h1 = grid_Grid_Text_b1 := by rfl) (e_h2 : h2 = grid_Grid_Text_c0 := by rfl) : W funs known (.func (.func n_grid_Grid_Text) #[] #[]) [(.pointer a0)] M Q := by
  exact W_funB (m := mf37) (c := (mf37_b h0 h1 h2)) hM (by kernel_rfl) (by kernel_rfl) (by subst e_h0 e_h1 e_h2; rfl) (by kernel_rfl) h
theorem grid_Grid_Text_c0_wp  {y0 y1 y3 y4 y5 y6 y7 y8 y9 y10 y11 y12 y13 y14 y15 y16 : LV} {B0 : Nat} {e0_0 : Value} {B1 : Nat} {e1_0 : Value}  {ds : List Nat} {M : Mem} {Q : Value → Mem → Prop} (h : (∃ v2, (Value.cells e0_0) = #[v2] ∧ notTup e0_0 = true ∧ (0 < 1 ∧ ∀ (M1 : Mem), M1 = M.set B0 (.cells [v2] 82 true) → (retK mf37 Q .ret ⟨[y0, y1, (.loc 0 0), y3, y4, y5, y6, y7, y8, y9, y10, y11, y12, y13, y14, y15, (.v e0_0)], [⟨B0, [v2], 82⟩, ⟨B1, [e1_0], 101⟩], ds, M1⟩))))  : wpC funs known none grid_Grid_Text_c0 ⟨[y0, y1, (.loc 0 0), y3, y4, y5, y6, y7, y8, y9, y10, y11, y12, y13, y14, y15, y16], [⟨B0, [e0_0], 82⟩, ⟨B1, [e1_0], 101⟩], ds, M⟩ (retK mf37 Q) := by
  refine Eq.mp ?_ h
  kernel_rfl
theorem grid_Grid_Text_a1_out   {y0 y1 y4 y5 y6 y7 y8 y9 y10 y11 y12 y13 y14 y15 y16 : LV} {B0 : Nat} {e0_0 : Value} {B1 : Nat} {e1_0 : Value} {g0 : MCode} {ds : List Nat} {dd : Nat} {M : Mem} {Q : Value → Mem → Prop} (h : (wpC funs known none g0 ⟨[y0, y1, (.loc 0 0), (.loc 1 0), y4, y5, y6, y7, y8, y9, y10, y11, y12, y13, y14, y15, y16], [⟨B0, [e0_0], 82⟩, ⟨B1, [e1_0], 101⟩], (dd :: ds), M⟩ (retK mf37 Q))) (e_g0 : g0 = grid_Grid_Text_c0 := by rfl) : (blockK 0 (seqK (fun s => wpC funs known none g0 s (retK mf37 Q)) (retK mf37 Q))) .normal ⟨[y0, y1, (.loc 0 0), (.loc 1 0), y4, y5, y6, y7, y8, y9, y10, y11, y12, y13, y14, y15, y16], [⟨B0, [e0_0], 82⟩, ⟨B1, [e1_0], 101⟩], (dd :: ds), M⟩ := by
  refine Eq.mp ?_ h
  kernel_rfl
end Go.Proofs.Ytifemfnjoobiiaa.Run
namespace Go.Proofs.Ytifemfnjoobiiaa.Run
open Go Go.RowKit
set_option linter.unusedVariables false
set_option linter.unusedSimpArgs false
set_option maxRecDepth 100000
section
variable {M₀ M : Mem} {Q : Value → Mem → Prop} {b rb C : Nat} {G : Gd}
abbrev nilP : Value := .pointer none
theorem nis_W (hM : M.base ≤ M.size) {i : Int} (q : Q (.bool false) M) : W funs known (.func (.func n_grid_Grid_is) #[] #[]) [nilP, .int .i64 i] M Q :=
 grid_Grid_is_wp hM ⟨.bool false, rfl, wpIf.ff q⟩
theorem nhas_W (hM : M.base ≤ M.size) {r c : Int} (q : ∀ M', Ext M M' → Q (.bool false) M') : W funs known (.func (.func n_grid_Grid_has) #[] #[]) [nilP, posV r c] M Q := by
 refine grid_Grid_has_wp hM ⟨rfl, fun b1 M2 hb1 hM2 => ?_⟩
 have e2 : Ext M M2 := Ext.push' hM2
 exact nis_W (e2.ok hM) ⟨KeepB.refl _ _, wpIf.ff (q M2 e2)⟩
theorem nsize_W (hM : M.base ≤ M.size) (q : Q (.tuple #[.int .i64 0, .int .i64 0]) M) : W funs known (.func (.func n_grid_Grid_Size) #[] #[]) [nilP] M Q :=
 grid_Grid_Size_wp hM ⟨.bool true, rfl, wpIf.tt q⟩
theorem nat_W (hM : M.base ≤ M.size) {r c : Int} (q : ∀ M', Ext M M' → Q (.tuple #[zeroC.val, .bool false]) M') : W funs known (.func (.func n_grid_Grid_At) #[] #[]) [nilP, posV r c] M Q := by
 refine grid_Grid_At_wp hM ⟨rfl, fun b1 M2 hb1 hM2 => ⟨rfl, fun b3 M4 hb3 hM4 => ?_⟩⟩
 have e2 : Ext M M2 := Ext.push' hM2
 have s2 : M2.size = M.size + 1 := by rw [hM2]; rfl
 have e4 : Ext M M4 := e2.trans (Ext.push' hM4)
 have s4 : M4.size = M2.size + 1 := by rw [hM4]; rfl
 refine nhas_W (e4.ok hM) fun M6 e6 => ⟨e6.keep _, _, rfl, wpIf.tt ⟨zeroC.val, rfl, ⟨rfl, rfl, by decide⟩, fun M9 hM9 => LGetN.as zeroC.val (by exact Nat.le_refl 14) rfl (q M9 ?_)⟩⟩
 have s6 := e6.size
 exact hM9 ▸ (e4.trans e6).set (by omega) (by omega) _
theorem nrow_W (hM : M.base ≤ M.size) {i : Int} (q : Q (.slice none 0 0) M) : W funs known (.func (.func n_grid_Grid_Row) #[] #[]) [nilP, .int .i64 i] M Q :=
 grid_Grid_Row_wp hM (nis_W hM ⟨_, rfl, wpIf.tt q⟩)
theorem nset_W (hM : M.base ≤ M.size) {i : Int} {v : Value} (q : Q (.bool false) M) : W funs known (.func (.func n_grid_Grid_Set) #[] #[]) [nilP, .int .i64 i, v] M Q :=
 grid_Grid_Set_wp hM (nis_W hM ⟨_, rfl, wpIf.tt q⟩)
theorem nerase_W (hM : M.base ≤ M.size) {r x y : Int} {c : Ce} (q : ∀ M', Ext M M' → Q (.tuple #[]) M') : W funs known (.func (.func n_grid_Grid_Erase) #[] #[]) [nilP, .int .i64 r, .int .i64 x, .int .i64 y, c.val] M Q := by
 refine grid_Grid_Erase_wp hM ⟨rfl, fun b1 M2 hb1 hM2 => ?_⟩
 have e2 : Ext M M2 := Ext.push' hM2
 exact nis_W (e2.ok hM) ⟨KeepB.refl _ _, wpIf.ff (q M2 e2)⟩
theorem ncopy_W (hM : M.base ≤ M.size) (q : Q nilP M) : W funs known (.func (.func n_grid_Grid_Copy) #[] #[]) [nilP] M Q :=
 grid_Grid_Copy_wp hM ⟨.bool true, rfl, wpIf.tt q⟩
theorem nsame_W (hM : M.base ≤ M.size) (q : Q (.bool true) M) : W funs known (.func (.func n_grid_Same) #[] #[]) [nilP, nilP] M Q :=
 grid_Same_wp hM ⟨.bool true, rfl, wpIf.tt ⟨.bool true, rfl, q⟩⟩
theorem nsame'_W (hM : M.base ≤ M.size) (q : Q (.bool false) M) : W funs known (.func (.func n_grid_Same) #[] #[]) [nilP, .pointer (some ⟨b, 0, none⟩)] M Q :=
 grid_Same_wp hM ⟨.bool true, rfl, wpIf.tt ⟨.bool false, rfl, q⟩⟩
theorem nup_W (hM : M.base ≤ M.size) {t bt k : Int} {c : Ce} (q : ∀ M', Ext M M' → Q (.slice none 0 0) M') : W funs known (.func (.func n_grid_Grid_Up) #[] #[]) [nilP, .int .i64 t, .int .i64 bt, .int .i64 k, c.val] M Q := by
 refine grid_Grid_Up_wp hM ⟨rfl, fun b1 M2 hb1 hM2 => ?_⟩
 have e2 : Ext M M2 := Ext.push' hM2
 refine grid_Grid_scroll_wp (e2.ok hM) ⟨rfl, fun b3 M4 hb3 hM4 => ?_⟩
 have e4 : Ext M2 M4 := Ext.push' hM4
 exact nis_W (e4.ok (e2.ok hM)) ⟨KeepB.refl _ _, _, rfl, wpIf.tt ⟨e4.keep _, q M4 (e2.trans e4)⟩⟩
theorem nresize_W (hM : M.base ≤ M.size) {r c : Int} {z : Ce} (q : ∀ M', Ext M M' → Q (.bool false) M') : W funs known (.func (.func n_grid_Grid_Resize) #[] #[]) [nilP, .int .i64 r, .int .i64 c, z.val] M Q := by
 refine grid_Grid_Resize_wp hM ⟨rfl, fun b1 M2 hb1 hM2 => ⟨rfl, fun b3 M4 hb3 hM4 => ⟨rfl, fun b5 M6 hb5 hM6 => ⟨.bool true, rfl, wpIf.tt (q M6 ?_)⟩⟩⟩⟩
 exact (Ext.push' hM2).trans ((Ext.push' hM4).trans (Ext.push' hM6))
theorem nput_W (hM : M.base ≤ M.size) {r c : Int} {z : Ce} {w : Bool} (q : ∀ M', Ext M M' → Q (.tuple #[]) M') : W funs known (.func (.func n_grid_Grid_Put) #[] #[]) [nilP, posV r c, z.val, .bool w] M Q := by
 refine grid_Grid_Put_wp hM ⟨rfl, fun b1 M2 hb1 hM2 => ⟨rfl, fun b3 M4 hb3 hM4 => ⟨_, rfl, ?_⟩⟩⟩
 have e4 : Ext M M4 := (Ext.push' hM2).trans (Ext.push' hM4)
 refine grid_Grid_at_wp (e4.ok hM) ⟨rfl, fun b5 M6 hb5 hM6 => ?_⟩
 have e6 : Ext M4 M6 := Ext.push' hM6
 exact nhas_W (e6.ok (e4.ok hM)) fun M8 e8 => ⟨e8.keep _, wpIf.ff ⟨(e6.trans e8).keep _, q M8 (e4.trans (e6.trans e8))⟩⟩
theorem all_nil_iter {M1 : Mem} {bx : Nat} : IterR funs known (allV bx) [] (fun i N => i = 0 → N.get bx = some (.cells [nilP] 31 true)) M1 [] := by
 intro y I Stop M0 hb e1 Y hr i0
 have g1 := hr 0 [] M0 i0 rfl
 refine grid_Grid_all_1_wp hb (pt_ld g1 rfl ⟨.bool true, rfl, wpIf.tt ?_⟩)
 have done : M0.base = M0.base ∧ M0.size ≤ M0.size ∧ ∃ B, I ([] : List (List Value)).length B M0 ∨ Stop B M0 := ⟨rfl, Nat.le_refl _, [], .inl i0⟩
 exact done
theorem range_nil {s : LS} {f : Operand} {ps : List Tmp} {asg bd : MCode} {Q : XE → LS → Prop} {bx : Nat} (hf : lvO s.t f = .v (allV bx)) (gb : s.M.get bx = some (.cells [nilP] 31 true)) (hbx : bx < s.M.size)
  (q : ∀ N, N.base = s.M.base → s.M.size + 2 ≤ N.size → (∀ c, c < s.M.size → N.get c = s.M.get c) → N.get s.M.size = some .dblk → Q .normal ⟨s.t, s.L, s.M.size :: s.ds, N⟩) : RangeW funs known none (.rangeFunc f ps asg bd) s Q := by
 refine range_R (X := []) (R := fun i N => i = 0 → N.get bx = some (.cells [nilP] 31 true)) (M1 := s.M) (items := []) (g := n_grid_Grid_all_1) (first := #[]) (cap := #[.pointer (some ⟨bx, 0, none⟩)]) (Y0 := [])
  (J := fun n B K N => K = s.L ∧ B = [] ∧ ∀ c, c < s.M.size → N.get c = s.M.get c) (Z := fun _ _ _ _ => False) hf all_nil_iter (Ext.refl _) (fun b hb => by cases hb) (fun x hx => by cases hx) (fun x hx => by cases hx) ?Jm (fun _ _ _ _ _ h _ => h.elim) ?Jr ?Jb (fun _ _ _ _ h => h.elim) ?Js (fun _ _ _ _ h => h.elim) ⟨rfl, rfl, fun _ _ => rfl⟩ ?body ?done (fun _ _ _ _ h => h.elim)
 case Jm => exact fun n B K N N' h hk => ⟨h.1, h.2.1, fun c hc => (hk.get c (.inl ⟨hc, by simp⟩)).trans (h.2.2 c hc)⟩
 case Jr => exact fun n B K N h _ => (h.2.2 bx hbx).trans gb
 case Jb => intro n B K N h b hb; rw [h.2.1] at hb; cases hb
 case Js => intro _ _ _ _ h; rw [h.1]
 case body => intro i x B L N hx; simp at hx
 case done => rintro B L N ⟨rfl, _, h⟩ k1 k2 k3; exact q N k1 k2 h k3
theorem kill1 {S N : Mem} {d : Nat} (hb : N.base ≤ d) (gd : N.get d = some .dblk) (e1 : N.base = S.base) (e2 : S.size ≤ N.size) (hd : S.size ≤ d) (e3 : ∀ c, c < S.size → N.get c = S.get c) : ∃ N', killAll N [d] = some N' ∧ Ext S N' := by
 obtain ⟨N', d1, d2, d3, d4⟩ := kill_ok [d] N (fun x hx => by rw [List.mem_singleton] at hx; subst hx; exact ⟨hb, gd⟩) (by simp)
 exact ⟨N', d1, by omega, by omega, fun c hc => (d4 c (by simp; omega)).trans (e3 c hc)⟩
theorem nraise_W (hM : M.base ≤ M.size) {l : Int} (q : ∀ M', Ext M M' → Q (.tuple #[]) M') : W funs known (.func (.func n_grid_Grid_Raise) #[] #[]) [nilP, .int .u8 l] M Q := by
 refine grid_Grid_Raise_wp hM ⟨rfl, fun b1 M2 hb1 hM2 => ⟨rfl, fun b3 M4 hb3 hM4 => ?_⟩⟩
 have e4 : Ext M M4 := (Ext.push' hM2).trans (Ext.push' hM4)
 refine all_W (e4.ok hM) fun M6 bx e46 gbx bx1 bx2 => ⟨e46.keep _, ?_⟩
 have e6 := e4.trans e46
 have k6 := e6.ok hM
 refine range_nil (bx := bx) rfl gbx bx2 fun N n1 n2 n3 n4 => ?_
 have n1 : N.base = M6.base := n1
 have n2 : M6.size + 2 ≤ N.size := n2
 refine grid_Grid_Raise_a0_out ?_
 obtain ⟨N', d1, d2⟩ := kill1 (S := M6) (by show N.base ≤ M6.size; omega) n4 n1 (by omega) (Nat.le_refl _) n3
 refine (retK_ds ⟨N', d1, ?_⟩).1
 exact q N' (e6.trans d2)
theorem nlevel_W (hM : M.base ≤ M.size) (q : ∀ M', Ext M M' → Q (.int .u8 0) M') : W funs known (.func (.func n_grid_Grid_Level) #[] #[]) [nilP] M Q := by
 refine grid_Grid_Level_wp hM ⟨rfl, fun b1 M2 hb1 hM2 => ?_⟩
 have e2 : Ext M M2 := Ext.push' hM2
 have s2 : M2.size = M.size + 1 := by rw [hM2]; rfl
 refine all_W (e2.ok hM) fun M6 bx e46 gbx bx1 bx2 => ⟨e46.keep _, ?_⟩
 have s6 := e46.size
 have e6 := e2.trans e46
 have k6 := e6.ok hM
 refine range_nil (bx := bx) rfl gbx bx2 fun N n1 n2 n3 n4 => ?_
 have n1 : N.base = M6.base := n1
 have n2 : M6.size + 2 ≤ N.size := n2
 refine grid_Grid_Level_a1_out (grid_Grid_Level_c0_wp ⟨.int .u8 0, rfl, rfl, by decide, fun M1 hM1 => ?_⟩)
 have z1 : M1.size = N.size := by rw [hM1]; rfl
 have z2 : M1.base = N.base := by rw [hM1]; rfl
 have z3 : ∀ c, c ≠ b1 → M1.get c = N.get c := fun c hc => by rw [hM1, Mem.get_set _ _ _ (by omega), if_neg hc]
 obtain ⟨N', d1, d2⟩ := kill1 (S := M) (N := M1) (d := M6.size) (by omega) ((z3 _ (by omega)).trans n4) (by have := e6.base; omega) (by omega) (by omega) (fun c hc => (z3 c (by omega)).trans ((n3 c (by show c < M6.size; omega)).trans (e6.get c hc)))
 refine (retK_ds ⟨N', d1, ?_⟩).2
 exact q N' d2
theorem ntext_W (hM : M.base ≤ M.size) (q : ∀ M', Ext M M' → Q (.slice none 0 0) M') : W funs known (.func (.func n_grid_Grid_Text) #[] #[]) [nilP] M Q := by
 refine grid_Grid_Text_wp hM ⟨rfl, fun b1 M2 hb1 hM2 => ⟨rfl, fun b3 M4 hb3 hM4 => ⟨_, rfl, rfl, by decide, fun M5 hM5 => ?_⟩⟩⟩
 have e2 : Ext M M2 := Ext.push' hM2
 have s2 : M2.size = M.size + 1 := by rw [hM2]; rfl
 have e4 : Ext M M4 := e2.trans (Ext.push' hM4)
 have s4 : M4.size = M2.size + 1 := by rw [hM4]; rfl
 have e5 : Ext M M5 := hM5 ▸ e4.set (by omega) (by omega) _
 have s5 : M5.size = M4.size := by rw [hM5]; rfl
 refine all_W (e5.ok hM) fun M6 bx e46 gbx bx1 bx2 => ⟨e46.keep _, ?_⟩
 have s6 := e46.size
 have e6 := e5.trans e46
 have k6 := e6.ok hM
 refine range_nil (bx := bx) rfl gbx bx2 fun N n1 n2 n3 n4 => ?_
 have n1 : N.base = M6.base := n1
 have n2 : M6.size + 2 ≤ N.size := n2
 refine grid_Grid_Text_a1_out (grid_Grid_Text_c0_wp ⟨.slice none 0 0, rfl, rfl, by decide, fun M1 hM1 => ?_⟩)
 have z1 : M1.size = N.size := by rw [hM1]; rfl
 have z2 : M1.base = N.base := by rw [hM1]; rfl
 have z3 : ∀ c, c ≠ b1 → M1.get c = N.get c := fun c hc => by rw [hM1, Mem.get_set _ _ _ (by omega), if_neg hc]
 obtain ⟨N', d1, d2⟩ := kill1 (S := M) (N := M1) (d := M6.size) (by omega) ((z3 _ (by omega)).trans n4) (by have := e6.base; omega) (by omega) (by omega) (fun c hc => (z3 c (by omega)).trans ((n3 c (by show c < M6.size; omega)).trans (e6.get c hc)))
 refine (retK_ds ⟨N', d1, ?_⟩).2
 exact q N' d2
def levG (G : Gd) : Int := G.foldl (fun l r => max l (levelF r 0 r.length)) 0
theorem glevel_W (hM : M.base ≤ M.size) (h : Gp M₀ M b rb C G) (q : ∀ M', Ext M M' → Q (.int .u8 (levG G)) M') : W funs known (.func (.func n_grid_Grid_Level) #[] #[]) [.pointer (some ⟨b, 0, none⟩)] M Q := by
 obtain ⟨_, _, _, _, _, _, _, hbl, hrl, _⟩ := h.facts
 refine grid_Grid_Level_wp hM ⟨rfl, fun b1 M2 hb1 hM2 => ?_⟩
 have e2 : Ext M M2 := Ext.push' hM2
 have s2 : M2.size = M.size + 1 := by rw [hM2]; rfl
 refine all_W (e2.ok hM) fun M6 bx e46 gbx bx1 bx2 => ⟨e46.keep _, ?_⟩
 have s6 := e46.size
 have e6 := e2.trans e46
 have k6 := e6.ok hM
 have gb1 : M6.get b1 = some (.cells [.int .u8 0] 40 true) := e46.same (by rw [hM2, Mem.get_push, if_pos hb1])
 have h6' := h.ext e6
 obtain ⟨P, sp, cap, rest, h6, rfl⟩ := h6'
 have hrb6 : rb < M6.size := Mem.lt_of_get h6.gr
 have hb6 : b < M6.size := Mem.lt_of_get h6.gb
 refine range_R (X := []) (R := Rd bx b rb (.slice (some ⟨rb, 0, sp⟩) P.length cap) P) (M1 := M6) (items := itemsP P) (g := n_grid_Grid_all_1) (first := #[]) (cap := #[.pointer (some ⟨bx, 0, none⟩)]) (Y0 := [])
  (J := fun n B K N => K = [⟨b1, [.int .u8 (levG ((P.map (·.2)).take n))], 40⟩] ∧ B = [] ∧ ∀ c, c < M6.size → c ≠ b1 → N.get c = M6.get c) (Z := fun _ _ _ _ => False) ?hf ?it ?e1 ?hX ?hY ?len ?Jm ?Zm ?Jr ?Jb ?Zb ?Js ?Zs ?J0 ?body ?done ?zdone
 case hf => rfl
 case it => exact all_iter P h6.n2
 case e1 => exact Ext.refl _
 case hX => intro b hb; cases hb
 case hY => intro x hx; cases hx
 case len =>
  intro x hx
  obtain ⟨j, hj⟩ := List.mem_iff_getElem?.1 hx
  rw [itemsP_get] at hj
  obtain ⟨p, _, rfl⟩ := Option.map_eq_some_iff.1 hj
  rfl
 case Jm => exact fun n B K N N' h hk => ⟨h.1, h.2.1, fun c hc hne => (hk.get c (.inl ⟨hc, by simp⟩)).trans (h.2.2 c hc hne)⟩
 case Zm => exact fun _ _ _ _ _ h _ => h.elim
 case Jr =>
  rintro n B K N ⟨_, _, h⟩
  exact ⟨fun _ => ⟨(h bx bx2 (by omega)).trans gbx, .int .i64 C, (h b hb6 (by omega)).trans h6.gb⟩, fun k p hk hp => row_load ((h rb hrb6 (by omega)).trans h6.gr) hp⟩
 case Jb => intro n B K N h b hb; rw [h.2.1] at hb; cases hb
 case Zb => exact fun _ _ _ _ h => h.elim
 case Js => intro _ _ _ _ h; rw [h.1] <;> rfl
 case Zs => exact fun _ _ _ _ h => h.elim
 case J0 => exact ⟨rfl, rfl, fun _ _ _ => rfl⟩
 case zdone => exact fun _ _ _ _ h => h.elim
 case body =>
  rintro n x B K N hx ⟨rfl, rfl, h⟩ bN zN kN
  rw [itemsP_get] at hx
  obtain ⟨p, hp, rfl⟩ := Option.map_eq_some_iff.1 hx
  have zN : M6.size + 2 ≤ N.size := zN
  have bN : N.base = M6.base := bN
  have hpN := h6.rows p (List.mem_of_getElem? hp)
  have hpc := h6.cols p (List.mem_of_getElem? hp)
  refine grid_Grid_Level_a1_body ⟨rfl, rfl, fun N1 hag => ?_⟩
  have hag : Agree (M6.size + 1) N N1 := hag
  have a1 := hag.size
  have a2 := hag.base
  have g1 : ∀ c, c < M6.size → c ≠ b1 → N1.get c = M6.get c := fun c hc hne => (hag.get c (by omega)).trans (h c hc hne)
  have hp1 : Sl N1 p.1 p.2 := by
   obtain ⟨cb, sp', hv, gv, hlt⟩ := hpN
   refine New.sl (ty := 42) (M := M₀) ⟨cb, sp', hv, (g1 cb (Mem.lt_of_get gv) fun hc => ?_).trans gv, hlt⟩
   rw [hc, gb1] at gv
   exact absurd (AObj.cells.inj (Option.some.inj gv)).2.1 (by decide)
  refine step_lenS hp1 (level_W (freeze_ok N1) hp1.freeze (by rw [hpc]; have := h6.c2; omega) fun M4 e4 => ⟨e4.keepF _, step_max ⟨_, rfl, rfl, by decide, fun M8 hM8 => ?_⟩⟩)
  have e4' := e4.thaw
  generalize M4.thaw N1.base = R at e4' hM8
  have s4 := e4'.size
  have z1 : M8.size = R.size := by rw [hM8]; rfl
  have z2 : M8.base = R.base := by rw [hM8]; rfl
  have z3 : ∀ c, c ≠ b1 → M8.get c = R.get c := fun c hc => by rw [hM8, Mem.get_set _ _ _ (by omega), if_neg hc]
  have hlev : levG ((P.map (·.2)).take (n + 1)) = max (levG ((P.map (·.2)).take n)) (levelF p.2 0 p.2.length) := by
   have hm : (P.map (·.2))[n]? = some p.2 := by rw [List.getElem?_map, hp]; rfl
   obtain ⟨q1, q2⟩ := List.getElem?_eq_some_iff.1 hm
   unfold levG
   rw [List.take_succ_eq_append_getElem q1, q2, List.foldl_append]; rfl
  refine ⟨?_, ⟨?_, ?_, ?_⟩, [], by simp, .inl ⟨rfl, ?_, rfl, ?_⟩⟩
  ·show M8.get (M6.size + 1) = N1.get (M6.size + 1)
   rw [z3 _ (by omega), e4'.get _ (by omega)]
  ·show M8.base = N.base
   have := e4'.base; omega
  ·show N.size ≤ M8.size
   omega
  ·intro y hy hno
   have hno : ¬ (y = M6.size + 1 ∨ y ∈ [b1] ∨ y ∈ ([] : List Nat) ∨ y ∈ ([] : List Nat)) := hno
   simp only [List.mem_singleton, not_or] at hno
   show M8.get y = N.get y
   rw [z3 y hno.2.1, e4'.get y (by omega), hag.get y hno.1]
  ·rw [hlev]; rfl
  ·intro c hc hne
   show M8.get c = M6.get c
   rw [z3 c hne, e4'.get c (by omega), g1 c hc hne]
 case done =>
  rintro B K N ⟨rfl, rfl, h⟩ bN zN gd
  have zN : M6.size + 2 ≤ N.size := zN
  have bN : N.base = M6.base := bN
  have gd : N.get M6.size = some .dblk := gd
  have hall : (P.map (·.2)).take (itemsP P).length = P.map (·.2) := by rw [itemsP_len]; exact List.take_of_length_le (by simp)
  rw [hall]
  refine grid_Grid_Level_a1_out (grid_Grid_Level_c0_wp ⟨_, rfl, rfl, by decide, fun M1 hM1 => ?_⟩)
  have z1 : M1.size = N.size := by rw [hM1]; rfl
  have z2 : M1.base = N.base := by rw [hM1]; rfl
  have z3 : ∀ c, c ≠ b1 → M1.get c = N.get c := fun c hc => by rw [hM1, Mem.get_set _ _ _ (by omega), if_neg hc]
  obtain ⟨N', d1, d2⟩ := kill1 (S := M) (N := M1) (d := M6.size) (by omega) ((z3 _ (by omega)).trans gd) (by have := e6.base; omega) (by omega) (by omega) (fun c hc => (z3 c (by omega)).trans ((h c (by omega) (by omega)).trans (e6.get c hc)))
  refine (retK_ds ⟨N', d1, ?_⟩).2
  exact q N' d2
end
end Go.Proofs.Ytifemfnjoobiiaa.Run
