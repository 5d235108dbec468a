/- The law RectMoves of chapter 12: the walk. -/
import Derived.Test.YtklnbkacnghdnaaAct
namespace Go.Proofs.Ytklnbkacnghdnaa.Run
open Go Go.RowKit
set_option linter.unusedVariables false
set_option linter.unusedSimpArgs false

abbrev zCe : Ce := ⟨122, 0, 0, 0, ⟨0, 0, 0, 0, 0, 0, 0, 0, 0⟩, 0⟩
abbrev hCe : Ce := ⟨0, 0, 0, 0, ⟨0, 0, 0, 0, 0, 0, 0, 0, 0⟩, 1⟩
abbrev allR (R C : Nat) : Rc := ⟨0, 0, R, C⟩

section
variable {M : Mem} {Q : Value → Mem → Prop}
abbrev rm2 (N : Mem) (R C : Nat) (bl : Value) (b1 : Nat) (c0 c1 : Value) (b3 : Nat) (a : An) (b9 : Nat) (r : Rc) (b28 b40 : Nat) (x : Ce) : Nat → LS → Prop := fun k s => ∃ i : Nat, s = law12_RectMoves_l2_s (.int .i64 R) (.int .i64 C) bl (.int .i64 i) b1 c0 c1 b3 (.int .u8 a.what) (.int .i64 a.t) (.int .i64 a.l) (.int .i64 a.r) (.int .i64 a.c) (.int .i64 a.row) (.int .i64 a.col) (.int .u8 a.d.rune) (.int .u8 a.d.marks) (.int .u8 a.d.attr) (.bool a.d.wide) (.bool a.d.high) (.int .u8 a.runes) b9 (Enc.enc r) b28 (Enc.enc (allR R C)) b40 (Enc.enc x) [] N ∧ i ≤ R ∧ k = R - i
abbrev rm4 (N : Mem) (R C : Nat) (bl : Value) (i : Nat) (b1 : Nat) (c0 c1 : Value) (b3 : Nat) (a : An) (b9 : Nat) (r : Rc) (b28 b40 : Nat) (x : Ce) : Nat → LS → Prop := fun k s => ∃ j : Nat, s = law12_RectMoves_l4_s (.int .i64 R) (.int .i64 C) bl (.int .i64 i) (.int .i64 j) b1 c0 c1 b3 (.int .u8 a.what) (.int .i64 a.t) (.int .i64 a.l) (.int .i64 a.r) (.int .i64 a.c) (.int .i64 a.row) (.int .i64 a.col) (.int .u8 a.d.rune) (.int .u8 a.d.marks) (.int .u8 a.d.attr) (.bool a.d.wide) (.bool a.d.high) (.int .u8 a.runes) b9 (Enc.enc r) b28 (Enc.enc (allR R C)) b40 (Enc.enc x) [] N ∧ j ≤ C ∧ k = C - j

set_option maxHeartbeats 4000000 in
theorem rmoves_W (hM : M.base ≤ M.size) {c : Int} (hc : 0 ≤ c ∧ c ≤ 255) {v : Value} {T : Lns} (h : Sl M v T.row) (hok : LnsOK M T) {a : An} (ha : a.ok) (q : ∀ M', Q (.bool true) M') :
    W funs known (.func (.func n_law12_RectMoves) #[] #[]) [.agg #[.int .u8 c, v], a.val] M Q := by
  obtain ⟨va, vc, rfl⟩ := h.shape
  refine law12_RectMoves_wp hM ⟨rfl, fun b1 P1 hb1 hP1 => ⟨rfl, fun b3 P hb3 hP => works12_W ⟨KeepB.refl _ _, _, rfl, wpIf.ff ?_⟩⟩⟩
  have e1 : Ext M P1 := Ext.push' hP1
  have s1 : P1.size = M.size + 1 := by rw [hP1]; rfl
  have eP : Ext M P := e1.trans (Ext.push' hP)
  have sP : P.size = P1.size + 1 := by rw [hP]; rfl
  have kP := eP.ok hM
  refine grid_W kP hc (.inl (h.ext eP)) (hok.ext eP) fun M9 g e9 n9 => ⟨e9.keep _, step_lenG n9.gr ?_⟩
  have k9 := e9.ok kP
  have hC := grid_flush c T
  have hC31 : (c % 31).toNat ≤ 30 := by omega
  have hG8 := gridF_len c T
  have sg := n9.gr
  clear n9
  generalize gridF c T = G at sg hC hG8 ⊢
  generalize (c % 31).toNat = C at hC hC31
  have hn : G.length ≤ 2 ^ 20 := by omega
  have hC2 : C ≤ 2 ^ 30 := by omega
  have fin : ∀ {N : Mem}, Ext M9 N → W funs known (.func (.func n_law12_Act_rect1) #[] #[]) [a.val] N.freeze (fun r12 M13 => KeepB [b1, b3] N M13 ∧ W funs known (.func (.func n_law12_Act_to) #[] #[]) [a.val] (M13.thaw N.base) (fun r14 M15 => KeepB [b1, b3] (M13.thaw N.base) M15 ∧
      W funs known (.func (.func n_rect_Copy) #[] #[]) [g, r12, r14] M15 (fun r16 M17 => KeepB [b1, b3] M15 M17 ∧ ∃ v18, opSem (.len 1 (.const r16)) [] M17 = some (v18, M17) ∧ ∃ v19, opSem (.len 1 (.const g)) [] M17 = some (v19, M17) ∧ ∃ v20, binV .eql 0 [] v18 v19 = some v20 ∧ Q v20 M17))) := by
    intro N eN
    refine rect1_W (freeze_ok _) fun M13 e13 => ⟨e13.keepF _, ?_⟩
    have t13 := Ext.thaw e13
    have k13 := (eN.trans t13).ok k9
    refine to_W k13 fun M15 e15 => ⟨e15.keep _, ?_⟩
    have e915 := (eN.trans t13).trans e15
    refine rcopy_W (e915.ok k9) (sg.ext e915) hC hC2 hn ha.rect (small_ok ha.row) (small_ok ha.col) fun M17 w e17 n17 => ⟨e17.keep _, step_lenG n17.gr (step_lenG sg (s_eqT ?_ (q _)))⟩
    rw [copyG_len]
  by_cases h0 : G.length = 0
  · exact s_eqT (by omega) (wpIf.tt (fin (Ext.refl _)))
  refine s_eqF (by omega) (wpIf.ff ?_)
  obtain ⟨L0, hL0⟩ : ∃ L, G[0]? = some L := ⟨_, List.getElem?_eq_getElem (by omega)⟩
  have hL0C : L0.length = C := hC L0 (List.mem_of_getElem? hL0)
  refine rdG sg (i := 0) (by omega) hL0 fun _ x0 sl0 => step_lenS sl0 ?_
  rw [hL0C]
  by_cases hC0 : C = 0
  · exact s_eqT (by omega) (wpIf.tt (fin (Ext.refl _)))
  refine s_eqF (by omega) (wpIf.ff ?_)
  clear fin
  have hne : G ≠ [] := fun h => h0 (by rw [h]; rfl)
  have hl : ∀ L ∈ G, L.length ≤ 2 ^ 30 := fun L hL => by rw [hC L hL]; exact hC2
  refine law12_RectMoves_c0_wp (step_lenG sg (rdG sg (i := 0) (by omega) hL0 fun _ x0' sl0' => step_lenS sl0' ?_))
  rw [hL0C]
  refine rect1_W k9 fun M6 e6 => ⟨e6.keep _, clip_W (e6.ok k9) ha.rect ⟨by omega, by omega⟩ ⟨by omega, by omega⟩ fun M8 e8 => ⟨e8.keep _, rfl, fun b9 M10 hb9 hM10 => ⟨⟨rfl, rfl, by decide⟩, fun M11 hM11 => ?_⟩⟩⟩
  have hwit := clip_within (a := a.rect) (R := G.length) (C := C) (by omega) (by omega)
  have hown : clippedF G (clipF a.rect G.length C) = clipF a.rect G.length C := clipped_own hC hne
  generalize clipF a.rect G.length C = r at hwit hown ⊢ hM11
  obtain ⟨w1, w2, w3, w4, w5, w6⟩ := hwit
  have rok : r.ok := ⟨⟨by omega, by omega⟩, ⟨by omega, by omega⟩, ⟨by omega, by omega⟩, ⟨by omega, by omega⟩⟩
  have e08 := e6.trans e8
  have e10 : Ext M9 M10 := e08.trans (Ext.push' hM10)
  have s8 := e08.size
  have s10 : M10.size = M8.size + 1 := by rw [hM10]; rfl
  have e11 : Ext M9 M11 := hM11 ▸ e10.set (by omega) (by omega) _
  have k11 := e11.ok k9
  refine LGetN.as r.val (by exact Nat.le_refl 4) rfl (LGet.mk (v := .int .i64 r.t) rfl (LGet.mk (v := .int .i64 r.l) rfl ⟨_, rfl, ?_⟩))
  refine rcopy_W k11 (sg.ext e11) hC hC2 hn rok ⟨by omega, by omega⟩ ⟨by omega, by omega⟩ fun M17 g1 e17 n17 => ⟨e17.keep _, LGetN.as r.val (by exact Nat.le_refl 4) rfl (LGet.mk (v := .int .i64 r.t) rfl (LGet.mk (v := .int .i64 r.l) rfl ⟨_, rfl, ?_⟩))⟩
  have k17 := e17.ok k11
  have hC1 := copy_flush hC r r.t r.l
  have hl1 : ∀ L ∈ copyG G r r.t r.l, L.length ≤ 2 ^ 30 := fun L hL => by rw [hC1 L hL]; exact hC2
  have hn1 : (copyG G r r.t r.l).length ≤ 2 ^ 20 := by rw [copyG_len]; exact hn
  refine rcopy_W k17 n17.gr hC1 hC2 hn1 rok ⟨by omega, by omega⟩ ⟨by omega, by omega⟩ fun M23 g2 e23 n23 => ⟨e23.keep _, ?_⟩
  rw [copy_twice hC hown] at n23
  have k23 := e23.ok k17
  refine gsame_W k23 (n17.gr.ext e23) n23.gr hl1 (by omega) ⟨KeepB.refl _ _, ?_⟩
  rw [decide_eq_true rfl]
  refine ⟨_, rfl, wpIf.ff ⟨(allR G.length C).val, rfl, rfl, fun b28 M29 hb28 hM29 => ⟨⟨rfl, rfl, by decide⟩, fun M30 hM30 => LGetN.as (allR G.length C).val (by exact Nat.le_refl 4) rfl ⟨_, rfl, ?_⟩⟩⟩⟩
  have e23' := (e11.trans e17).trans e23
  have e29 : Ext M9 M29 := e23'.trans (Ext.push' hM29)
  have s23 := e23'.size
  have s29 : M29.size = M23.size + 1 := by rw [hM29]; rfl
  have e30 : Ext M9 M30 := hM30 ▸ e29.set (by omega) (by omega) _
  have k30 := e30.ok k9
  have aok : (allR G.length C).ok := ⟨⟨(by decide : (-9223372036854775808 : Int) ≤ 0), (by decide : (0 : Int) ≤ 9223372036854775807)⟩, ⟨(by decide : (-9223372036854775808 : Int) ≤ 0), (by decide : (0 : Int) ≤ 9223372036854775807)⟩, ⟨by show _ ≤ (G.length : Int); omega, by show (G.length : Int) ≤ _; omega⟩, ⟨by show _ ≤ (C : Int); omega, by show (C : Int) ≤ _; omega⟩⟩
  refine rcopy_W k30 (sg.ext e30) hC hC2 hn aok ⟨by decide, by decide⟩ ⟨by decide, by decide⟩ fun M34 g3 e34 n34 => ⟨e34.keep _, ?_⟩
  rw [copy_all hC hne (by omega)] at n34
  have e034 := e30.trans e34
  have k34 := e034.ok k9
  refine gsame_W k34 n34.gr (sg.ext e034) hl (by omega) ⟨KeepB.refl _ _, ?_⟩
  rw [decide_eq_true rfl]
  refine ⟨_, rfl, wpIf.ff (cell_W k34 ha.d fun M39 e39 => ⟨e39.keep _, rfl, fun b40 M41 hb40 hM41 => ⟨⟨rfl, rfl, by decide⟩, fun M42 hM42 => LGetN.as r.val (by exact Nat.le_refl 4) rfl ⟨zCe.val, rfl, ?_⟩⟩⟩)⟩
  have hlet : 97 ≤ (cellF a.d).rune ∧ (cellF a.d).rune ≤ 122 := by
    have := Int.emod_nonneg a.d.rune (show (26 : Int) ≠ 0 by decide)
    have := Int.emod_lt_of_pos a.d.rune (show (0 : Int) < 26 by decide)
    show 97 ≤ 97 + a.d.rune % 26 ∧ 97 + a.d.rune % 26 ≤ 122
    omega
  have e039 := e034.trans e39
  have e41 : Ext M9 M41 := e039.trans (Ext.push' hM41)
  have s39 := e039.size
  have s41 : M41.size = M39.size + 1 := by rw [hM41]; rfl
  have e42 : Ext M9 M42 := hM42 ▸ e41.set (by omega) (by omega) _
  have k42 := e42.ok k9
  refine fill_W (freeze_ok _) (sg.ext e42).freeze hC hC2 hn rok (c := zCe) (.inl ⟨by decide, by decide⟩) fun M46 g4 e46 n46 => ⟨e46.keepF _, LGetN.as r.val (by exact Nat.le_refl 4) rfl (LGetN.as (cellF a.d).val (by exact Nat.le_refl 14) rfl ?_)⟩
  have t46 := Ext.thaw e46
  have n46' : GrN M42 (M46.thaw M42.base) g4 (fillG G r zCe) := n46
  generalize M46.thaw M42.base = R1 at t46 n46' ⊢
  have kR1 := t46.ok k42
  have hCf := fill_flush hC r zCe
  refine fill_W kR1 n46'.gr hCf hC2 (by rw [fillG_len]; exact hn) rok (c := cellF a.d) (.inl hlet) fun M50 g5 e50 n50 => ⟨e50.keep _, LGetN.as r.val (by exact Nat.le_refl 4) rfl (LGetN.as (cellF a.d).val (by exact Nat.le_refl 14) rfl ?_)⟩
  rw [fill_twice hC ⟨by decide, by decide⟩ hlet] at n50
  have e050 := (e42.trans t46).trans e50
  have k50 := e050.ok k9
  refine fill_W k50 (sg.ext e050) hC hC2 hn rok (c := cellF a.d) (.inl hlet) fun M54 g6 e54 n54 => ⟨e54.keep _, ?_⟩
  have e054 := e050.trans e54
  have k54 := e054.ok k9
  have hCg := fill_flush hC r (cellF a.d)
  refine gsame_W k54 (n50.gr.ext e54) n54.gr (fun L hL => by rw [hCg L hL]; exact hC2) (by rw [fillG_len]; omega) ⟨KeepB.refl _ _, ?_⟩
  rw [decide_eq_true rfl]
  refine ⟨_, rfl, wpIf.ff (LGetN.as (allR G.length C).val (by exact Nat.le_refl 4) rfl ⟨hCe.val, rfl, ?_⟩)⟩
  refine erect_W k54 (sg.ext e054) hC hC2 hn aok (c := hCe) fun M61 bl e61 n61 => ⟨e61.keep _, ?_⟩
  have sb := n61.gr
  have hcell : ∀ i k : Nat, i < G.length → k < C → ∃ L, (eraseG G (allR G.length C) hCe)[i]? = some L ∧ L[k]? = some hCe := fun i k hi hk => erase_whole hC hne (by omega) rfl hi hk
  generalize eraseG G (allR G.length C) hCe = B at sb hcell
  refine ⟨law12_RectMoves_l2_m, rm2 M61 G.length C bl b1 (.int .u8 c) (.slice va T.row.length vc) b3 a b9 r b28 b40 (cellF a.d), ⟨G.length, 0, rfl, Nat.zero_le _, rfl⟩, ?_⟩
  rintro k s ⟨i, rfl, hi, rfl⟩
  refine law12_RectMoves_l2_wp (I := rm2 M61 G.length C bl b1 (.int .u8 c) (.slice va T.row.length vc) b3 a b9 r b28 b40 (cellF a.d)) (step_lss (wpIf.dec (fun g1 => ?_) (fun g1 => ?_)))
  · refine ⟨law12_RectMoves_l4_m, rm4 M61 G.length C bl i b1 (.int .u8 c) (.slice va T.row.length vc) b3 a b9 r b28 b40 (cellF a.d), ⟨C, 0, rfl, Nat.zero_le _, rfl⟩, ?_⟩
    rintro k s ⟨j, rfl, hj, rfl⟩
    refine law12_RectMoves_l4_wp (I := rm4 M61 G.length C bl i b1 (.int .u8 c) (.slice va T.row.length vc) b3 a b9 r b28 b40 (cellF a.d)) (step_lss (wpIf.dec (fun g2 => ?_) (fun g2 => ?_)))
    · obtain ⟨L, hL1, hL2⟩ := hcell i j (by omega) (by omega)
      refine rdG sb (by omega) (by rw [Int.toNat_natCast]; exact hL1) fun _ x sx => rd sx (by omega) (by rw [Int.toNat_natCast]; exact hL2) fun _ => ⟨hCe.val, rfl, step_neqCe (wpIf.dec (fun h => absurd rfl h) (fun _ => ?_))⟩
      exact step_add (by omega) (by omega) ⟨C - (j + 1), by omega, j + 1, rfl, by omega, rfl⟩
    · exact blockK.hit (blockK.n (seqK.n (law12_RectMoves_c3_wp (step_add (by omega) (by omega) ⟨G.length - (i + 1), by omega, i + 1, rfl, by omega, rfl⟩))))
  · exact blockK.hit (law12_RectMoves_c1_wp (q _))
end
end Go.Proofs.Ytklnbkacnghdnaa.Run
