/- The law GridWhole, over this session's interpreter. -/
import Derived.Test.YtifemfnjoobiiaaGridP
import Derived.Test.YtifemfnjoobiiaaVcL
namespace Go.Proofs.Ytifemfnjoobiiaa.Run
open Go Go.RowKit
set_option linter.unusedVariables false
set_option linter.unusedSimpArgs false
section
variable {M : Mem} {Q : Value → Mem → Prop}
abbrev gwI (M₀ : Mem) (S : List Sp) (lv dv : Value) (c : Int) (b b1 : Nat) : Nat → LS → Prop := fun k s => ∃ (i : Nat) (M' : Mem) (rb C : Nat) (G : Gd), s = law11_GridWhole_l1_s lv (.pointer (some ⟨b, 0, none⟩)) (.int .i64 i) b1 (.int .u8 c) dv [] M' ∧ Ext M₀ M' ∧ Gp M₀ M' b rb C G ∧ WhA G ∧ i ≤ S.length ∧ k = S.length - i
abbrev gvI (M₁ : Mem) (W : Gd) (lv dv gv wv : Value) (i C : Nat) (c : Int) (b1 : Nat) : Nat → LS → Prop := fun k s => ∃ (j : Nat) (M' : Mem), s = law11_GridWhole_l5_s lv gv (.int .i64 i) (.int .i64 C) wv (.int .i64 j) b1 (.int .u8 c) dv [] M' ∧ Ext M₁ M' ∧ j ≤ W.length ∧ k = W.length - j
set_option maxHeartbeats 2000000 in
theorem gwhole_W (hM : M.base ≤ M.size) {c : Int} (hc : 0 ≤ c ∧ c ≤ 255) {dv lv : Value} {T : Lns} (h : Sl M dv T.row) (hok : LnsOK M T) {S : List Sp} (hS : Sl M lv S) (okS : ∀ s ∈ S, s.ok) (q : ∀ M', Q (.bool true) M') :
  W funs known (.func (.func n_law11_GridWhole) #[] #[]) [.agg #[.int .u8 c, dv], lv] M Q := by
 obtain ⟨da, dcap, hdv⟩ := h.shape
 obtain ⟨la, lcap, hlv⟩ := hS.shape
 rw [hdv, hlv]
 refine law11_GridWhole_wp hM ?_
 rw [← hdv, ← hlv]
 refine ⟨rfl, fun b1 M2 hb1 hM2 => W_known (r := .bool true) rfl ⟨KeepB.refl _ _, _, rfl, wpIf.ff ?_⟩⟩
 have e2 : Ext M M2 := Ext.push' hM2
 have s2 : M2.size = M.size + 1 := by rw [hM2]; rfl
 refine draftG_W (e2.ok hM) hc (.inl (h.ext e2)) (hok.ext e2) fun M7 gv e7 n7 => ⟨e7.keep _, ?_⟩
 have e07 := e2.trans e7
 have k7 := e07.ok hM
 obtain ⟨_, hC1, hC2⟩ := colsD_in c hc
 have hrows := gridD_rows c T
 have hb1 : b1 < M7.size := by have := e7.size; omega
 refine of_W k7 n7.gr (gridD_cols hc T) hC1 (by omega) hrows.1 (by omega) fun M9 b rb e9 g9 => ⟨e9.keep _, lwhole_W e9 k7 g9 fun M11 e11 => ⟨e11.keep _, ?_⟩⟩
 rw [wholeG_true (gridD_wh c T)]
 refine ⟨_, rfl, wpIf.ff ?_⟩
 refine ⟨law11_GridWhole_l1_m, gwI M7 S lv dv c b b1, ⟨S.length, 0, M11, rb, colsD c, gridD c T, rfl, e9.trans e11, g9.ext e11, gridD_wh c T, Nat.zero_le _, rfl⟩, ?_⟩
 clear g9 e11 e9 M11 M9
 rintro k s ⟨i, M', rb', C, G, rfl, eM, hG, hw, hi, rfl⟩
 have hS' := (hS.ext e07).ext eM
 have done : law11_GridWhole_c0_q b1 (.int .u8 c) dv M' Q := q M'
 refine law11_GridWhole_l1_wp (I := gwI M7 S lv dv c b b1) (step_lenS hS' (step_lss (wpIf.dec (fun g1 => step_lss (wpIf.dec (fun g2 => ?_) (fun g2 => ?_))) (fun g1 => ?_))))
 rotate_left
 ·exact blockK.hit (law11_GridWhole_c0_wp done)
 ·exact blockK.hit (law11_GridWhole_c0_wp done)
 obtain ⟨s, hs⟩ : ∃ s, S[i]? = some s := ⟨_, List.getElem?_eq_getElem (by omega)⟩
 have ok := okS s (List.mem_of_getElem? hs)
 have hk := eM.ok k7
 obtain ⟨hC, c1, c2, n1, n2, hb, hr, hbl, hrl, hne⟩ := hG.facts
 have hix : S[(i : Int).toNat]? = some s := by rw [Int.toNat_natCast]; exact hs
 refine law11_GridWhole_c2_wp (size_W hk hG ⟨KeepB.refl _ _, _, rfl, _, rfl, rd hS' (by omega) hix fun _ => does_W eM k7 hG ok fun M8 v rb8 t8 hrb8 w8 => ⟨t8.keep fun y hy => by rw [List.mem_singleton] at hy; omega, ?_⟩⟩)
 have e8 : Ext M7 M8 := t8.ext eM hb hr
 have g8 := w8.gp
 have k8 := e8.ok k7
 have hd := hw.does s C
 refine size_W k8 g8 ⟨KeepB.refl _ _, _, rfl, _, rfl, lwhole_W e8 k7 g8 fun M14 e14 => ⟨e14.keep _, ?_⟩⟩
 rw [wholeG_true hd.1]
 have e814 := e8.trans e14
 have hS14 := (hS.ext e07).ext e814
 have hwhat := ok.what
 have hn := ok.n
 have hm := ok.m
 have next : ∀ M15, Ext M14 M15 → ∃ j, j < S.length - i ∧ gwI M7 S lv dv c b b1 j (law11_GridWhole_l1_s lv (.pointer (some ⟨b, 0, none⟩)) (.int .i64 ((i : Int) + 1)) b1 (.int .u8 c) dv [] M15) := fun M15 e15 =>
  ⟨S.length - (i + 1), by omega, i + 1, M15, rb8, _, _, rfl, e814.trans e15, (g8.ext e14).ext e15, hd.1, by omega, rfl⟩
 have gr14 := (w8.1.ext e14).gr
 have hwC := does_went (s := s) hC
 have hwl := does_went_len s G C
 refine ⟨_, rfl, wpIf.ff (rd_f hS14 (by omega) hix (f := 0) rfl fun _ _ => step_rem8 (by decide) hwhat.1 ?_)⟩
 have loop : ∀ {st : LS} {Qx : XE → LS → Prop}, st.forget law11_GridWhole_l5_m = law11_GridWhole_l5_s lv (.pointer (some ⟨b, 0, none⟩)) (.int .i64 i) (.int .i64 C) v (.int .i64 0) b1 (.int .u8 c) dv [] M14 →
   LoopW (wpC funs known none law11_GridWhole_l5) st (blockK 2 (blockK 1 (seqK (fun s => wpC funs known none law11_GridWhole_c3 s (cutK 1 (seqK (fun s' => ∃ j, j < S.length - i ∧ gwI M7 S lv dv c b b1 j (s'.forget law11_GridWhole_l1_m)) Qx))) (cutK 1 (seqK (fun s' => ∃ j, j < S.length - i ∧ gwI M7 S lv dv c b b1 j (s'.forget law11_GridWhole_l1_m)) Qx))))) := by
  intro st Qx hst
  refine ⟨law11_GridWhole_l5_m, gvI M14 (doesF s G C).2.2 lv dv (.pointer (some ⟨b, 0, none⟩)) v i C c b1, ⟨(doesF s G C).2.2.length, ?_⟩, ?_⟩
  ·rw [hst]; exact ⟨0, M14, rfl, Ext.refl _, Nat.zero_le _, rfl⟩
  clear hst
  rintro k' s' ⟨j, M15, rfl, e15, hj, rfl⟩
  have gr := gr14.ext e15
  refine law11_GridWhole_l5_wp (I := gvI M14 (doesF s G C).2.2 lv dv (.pointer (some ⟨b, 0, none⟩)) v i C c b1) (step_lenG gr (step_lss (wpIf.dec (fun g3 => ?_) (fun g3 => ?_))))
  ·obtain ⟨L, hL⟩ : ∃ L, (doesF s G C).2.2[j]? = some L := ⟨_, List.getElem?_eq_getElem (by omega)⟩
   have hLC := hwC L (List.mem_of_getElem? hL)
   have hLw := hd.2 L (List.mem_of_getElem? hL)
   have hjx : (doesF s G C).2.2[(j : Int).toNat]? = some L := by rw [Int.toNat_natCast]; exact hL
   refine rdG gr (by omega) hjx fun _ x sx => whole_W ((e814.trans e15).ok k7) sx (by omega) fun M16 e16 => ⟨e16.keep _, ?_⟩
   rw [whole_iff.2 hLw]
   exact ⟨_, rfl, wpIf.ff (rdG (gr.ext e16) (by omega) hjx fun _ x' sx' => step_lenS sx' (s_neF (by omega) (wpIf.ff (step_add (by omega) (by omega) ⟨(doesF s G C).2.2.length - (j + 1), by omega, j + 1, M16, rfl, e15.trans e16, by omega, rfl⟩))))⟩
  ·exact blockK.hit (blockK.n (seqK.n (law11_GridWhole_c3_wp (step_add (by omega) (by omega) (next M15 e15)))))
 by_cases k9 : s.what % 10 = 9
 ·refine s_neF (by omega) (wpIf.ff (law11_GridWhole_c4_wp (rd_f hS14 (by omega) hix (f := 0) rfl fun _ _ => step_rem8 (by decide) hwhat.1 (s_eqT k9 (wpIf.tt (rd_f hS14 (by omega) hix (f := 3) rfl fun _ _ => step_rem8 (by decide) hn.1 (step_gtr (wpIf.dec (fun gn => ?_) (fun gn => ?_)))))))))
  rotate_left
  ·exact loop rfl
  refine rd_f hS14 (by omega) hix (f := 4) rfl fun _ _ => step_rem8 (by decide) hm.1 (step_gtr (wpIf.dec (fun gm => ?_) (fun gm => ?_)))
  rotate_left
  ·exact loop rfl
  obtain ⟨z1, z2⟩ := does_nine ok k9 gn gm G C
  exact rd_f hS14 (by omega) hix (f := 3) rfl fun _ _ => step_rem8 (by decide) hn.1 (step_conv (i64_ok (by omega) (by omega)) (s_neF (by omega) (wpIf.ff (rd_f hS14 (by omega) hix (f := 4) rfl fun _ _ => step_rem8 (by decide) hm.1 (step_conv (i64_ok (by omega) (by omega)) (s_neF (by omega) (wpIf.ff (loop rfl))))))))
 ·obtain ⟨z1, z2⟩ := does_size k9 G C
  exact s_neT k9 (wpIf.tt (s_neF (by omega) (wpIf.ff (s_neF (by omega) (wpIf.ff (law11_GridWhole_c4_wp (rd_f hS14 (by omega) hix (f := 0) rfl fun _ _ => step_rem8 (by decide) hwhat.1 (s_eqF k9 (wpIf.ff (loop rfl))))))))))
end
end Go.Proofs.Ytifemfnjoobiiaa.Run
