/- law12's changes: cell by cell. -/
import Derived.Test.YtklnbkacnghdnaaWholeP
import Derived.Test.YtklnbkacnghdnaaVcC
namespace Go.Proofs.Ytklnbkacnghdnaa.Run
open Go Go.RowKit
set_option linter.unusedVariables false
set_option linter.unusedSimpArgs false
set_option maxRecDepth 100000
theorem splice_cell {L : List Value} (h : L.length = 14) (c : Ce) : splice L 0 (Value.cells c.val).toList = Enc.enc c := by
  unfold splice
  rw [List.take_zero, List.nil_append]
  have : (L.drop (0 + (Value.cells c.val).toList.length)) = [] := List.drop_eq_nil_of_le (by rw [h]; exact Nat.le_refl 14)
  rw [this, List.append_nil]
  rfl
theorem changes_c8 {ar : Option Nat} {x0 x1 x7 x8 x12 x13 : Value} {y2 y3 y4 y6 y10 y14 y18 y19 y20 y21 y22 y23 y24 y25 y26 y27 y28 y29 y30 y31 y32 y33 y34 y35 y36 y37 y38 y39 y40 y41 y42 y43 y44 y45 y46 y47 y48 y49 y50 y51 y52 y53 y54 y55 y56 y57 y58 y59 y60 y61 y62 y63 y64 y65 y66 y67 y68 y69 y70 y71 y72 y73 y74 y75 y76 y77 y78 y79 y80 y81 y82 y83 y84 y85 y86 y87 y88 y89 y90 y91 y92 y93 y94 y95 y96 y97 y98 y99 y100 y101 y102 y103 y104 y105 y106 y107 y108 y109 y110 y111 y112 y113 y114 y115 y116 y117 y118 y119 y120 y121 y122 y123 y124 y125 y126 y127 y128 y129 y130 y131 y132 y133 y134 y135 y136 y137 y138 y139 y140 y141 y142 y143 y144 y145 y146 y147 y148 y149 y150 y151 y152 y153 y154 y155 y156 y157 y158 y159 y160 y161 y162 y163 y164 y165 y166 y167 y168 y169 y170 y171 y172 y173 y174 y175 y176 y177 y178 y179 y180 y181 y182 y183 y184 y185 y186 y187 y188 y189 y190 y191 y192 y193 y194 y195 y196 y197 y198 y199 y200 y201 y202 y203 y204 y205 y206 y207 y208 y209 y210 : LV} {B0 : Nat} {e0_0 e0_1 e0_2 e0_3 e0_4 e0_5 e0_6 e0_7 e0_8 e0_9 e0_10 e0_11 e0_12 : Value} {B1 : Nat} {C1 : List Value} {B2 : Nat} {C2 : List Value} {B3 : Nat} {C3 : List Value} {B4 : Nat} {C4 : List Value} {B5 : Nat} {C5 : List Value} {B6 : Nat} {C6 : List Value}   {ds : List Nat} {M : Mem} {k : Nat} {I : Nat → LS → Prop} {Q : XE → LS → Prop}  {M0 : Mem} {was now : Ce} {kk : Nat} (e : Ext M0 M) (h4 : C4 = Enc.enc was) (h5 : C5 = Enc.enc now) (h6 : C6.length = 14) (b6 : M0.size ≤ B6) (s6 : B6 < M.size) (hx : x13 = .int .i64 kk) (hk : kk ≤ 2 ^ 40) (ok : okW now was)
    (next : ∀ N, Ext M0 N → ∃ j, j < k ∧ I j (law12_changes_l5_s x0 x1 x7 x8 x12 (.int .i64 ((kk : Int) + 1)) B0 e0_0 e0_1 e0_2 e0_3 e0_4 e0_5 e0_6 e0_7 e0_8 e0_9 e0_10 e0_11 e0_12 B1 C1 B2 C2 B3 C3 ds N)) : wpC funs known ar law12_changes_c8 ⟨((.v x0) :: (.v x1) :: y2 :: y3 :: y4 :: (.loc 0 0) :: y6 :: (.v x7) :: (.v x8) :: (.loc 1 0) :: y10 :: (.loc 3 0) :: (.v x12) :: (.v x13) :: y14 :: (.loc 4 0) :: (.loc 5 0) :: (.loc 6 0) :: y18 :: y19 :: y20 :: y21 :: y22 :: y23 :: y24 :: y25 :: y26 :: y27 :: y28 :: y29 :: y30 :: y31 :: y32 :: y33 :: y34 :: y35 :: y36 :: y37 :: y38 :: y39 :: y40 :: y41 :: y42 :: y43 :: y44 :: y45 :: y46 :: y47 :: y48 :: y49 :: y50 :: y51 :: y52 :: y53 :: y54 :: y55 :: y56 :: y57 :: y58 :: y59 :: y60 :: y61 :: y62 :: y63 :: y64 :: y65 :: y66 :: y67 :: y68 :: y69 :: y70 :: y71 :: y72 :: y73 :: y74 :: y75 :: y76 :: y77 :: y78 :: y79 :: y80 :: y81 :: y82 :: y83 :: y84 :: y85 :: y86 :: y87 :: y88 :: y89 :: y90 :: y91 :: y92 :: y93 :: y94 :: y95 :: y96 :: y97 :: y98 :: y99 :: y100 :: y101 :: y102 :: y103 :: y104 :: y105 :: y106 :: y107 :: y108 :: y109 :: y110 :: y111 :: y112 :: y113 :: y114 :: y115 :: y116 :: y117 :: y118 :: y119 :: y120 :: y121 :: y122 :: y123 :: y124 :: y125 :: y126 :: y127 :: y128 :: y129 :: y130 :: y131 :: y132 :: y133 :: y134 :: y135 :: y136 :: y137 :: y138 :: y139 :: y140 :: y141 :: y142 :: y143 :: y144 :: y145 :: y146 :: y147 :: y148 :: y149 :: y150 :: y151 :: y152 :: y153 :: y154 :: y155 :: y156 :: y157 :: y158 :: y159 :: y160 :: y161 :: y162 :: y163 :: y164 :: y165 :: y166 :: y167 :: y168 :: y169 :: y170 :: y171 :: y172 :: y173 :: y174 :: y175 :: y176 :: y177 :: y178 :: y179 :: y180 :: y181 :: y182 :: y183 :: y184 :: y185 :: y186 :: y187 :: y188 :: y189 :: y190 :: y191 :: y192 :: y193 :: y194 :: y195 :: y196 :: y197 :: y198 :: y199 :: y200 :: y201 :: y202 :: y203 :: y204 :: y205 :: y206 :: y207 :: y208 :: y209 :: y210 :: []), [⟨B0, [e0_0, e0_1, e0_2, e0_3, e0_4, e0_5, e0_6, e0_7, e0_8, e0_9, e0_10, e0_11, e0_12], 32⟩, ⟨B1, C1, 26⟩, ⟨B2, C2, 28⟩, ⟨B3, C3, 26⟩, ⟨B4, C4, 50⟩, ⟨B5, C5, 50⟩, ⟨B6, C6, 50⟩], ds, M⟩ (blockK 3 (seqK (fun s => wpC funs known ar (.region false [(MOper.mk (some 87) none 2 (.val (.tmp 13))), (MOper.mk (some 88) none 2 (.bin .add 0 [] (.tmp 87) (.const (.int .i64 1)))), (MOper.mk (some 13) none 2 (.val (.tmp 88)))]) s (cutK 4 (seqK (fun s' => ∃ j, j < k ∧ I j (s'.forget law12_changes_l5_m)) Q))) (cutK 4 (seqK (fun s' => ∃ j, j < k ∧ I j (s'.forget law12_changes_l5_m)) Q)))) := by
  subst h4 h5 hx
  refine law12_changes_c8_wp ?_
  refine LGetN.as (.agg was.attr.cells.toArray) (by exact Nat.le_of_ble_eq_true rfl) rfl (LGet.mk (v := .int .u8 was.label) rfl ⟨was.bare.val, rfl, ⟨rfl, rfl, by rw [h6]; exact Nat.le_refl 14⟩, fun M4 hM4 => ?_⟩)
  have e4 : Ext M0 M4 := hM4 ▸ e.set b6 s6 _
  have nx : ∃ v, binV .add 0 [] (.int .i64 kk) (.int .i64 1) = some v ∧ (∃ j, j < k ∧ I j (law12_changes_l5_s x0 x1 x7 x8 x12 v B0 e0_0 e0_1 e0_2 e0_3 e0_4 e0_5 e0_6 e0_7 e0_8 e0_9 e0_10 e0_11 e0_12 B1 C1 B2 C2 B3 C3 ds M4)) := step_add (x := kk) (y := 1) (by omega) (by omega) (next _ e4)
  have hbare : splice C6 0 (Value.cells was.bare.val).toList = Enc.enc was.bare := splice_cell h6 _
  refine LGetN.as now.val (by exact Nat.le_refl 14) rfl (LGetN.as was.val (by exact Nat.le_refl 14) rfl (step_neqCe (wpIf.dec (fun h => ?_) (fun _ => nx))))
  rcases ok with rfl | ⟨h1, h2⟩
  · exact absurd rfl h
  · refine LGet.mk (v := .int .u8 was.kind) rfl (s_eqF h1 (wpIf.ff (LGetN.as now.val (by exact Nat.le_refl 14) rfl (LGetN.as was.bare.val ?_ ?_ (step_neqCe (wpIf.dec (fun h => absurd h2 h) (fun _ => nx)))))))
    · rw [hbare]; exact Nat.le_refl 14
    · rw [hbare]; rfl
theorem changes_c7 {ar : Option Nat} {x0 x1 x7 x8 x12 x13 x14 : Value} {y2 y3 y4 y6 y10 y18 y19 y20 y21 y22 y23 y24 y25 y26 y27 y28 y29 y30 y31 y32 y33 y34 y35 y36 y37 y38 y39 y40 y41 y42 y43 y44 y45 y46 y47 y48 y49 y50 y51 y52 y53 y54 y55 y56 y57 y58 y59 y60 y61 y62 y63 y64 y65 y66 y67 y68 y69 y70 y71 y72 y73 y74 y75 y76 y77 y78 y79 y80 y81 y82 y83 y84 y85 y86 y87 y88 y89 y90 y91 y92 y93 y94 y95 y96 y97 y98 y99 y100 y101 y102 y103 y104 y105 y106 y107 y108 y109 y110 y111 y112 y113 y114 y115 y116 y117 y118 y119 y120 y121 y122 y123 y124 y125 y126 y127 y128 y129 y130 y131 y132 y133 y134 y135 y136 y137 y138 y139 y140 y141 y142 y143 y144 y145 y146 y147 y148 y149 y150 y151 y152 y153 y154 y155 y156 y157 y158 y159 y160 y161 y162 y163 y164 y165 y166 y167 y168 y169 y170 y171 y172 y173 y174 y175 y176 y177 y178 y179 y180 y181 y182 y183 y184 y185 y186 y187 y188 y189 y190 y191 y192 y193 y194 y195 y196 y197 y198 y199 y200 y201 y202 y203 y204 y205 y206 y207 y208 y209 y210 : LV} {B0 : Nat} {e0_0 e0_1 e0_2 e0_3 e0_4 e0_5 e0_6 e0_7 e0_8 e0_9 e0_10 e0_11 e0_12 : Value} {B1 : Nat} {C1 : List Value} {B2 : Nat} {C2 : List Value} {B3 : Nat} {C3 : List Value} {B4 : Nat} {C4 : List Value} {B5 : Nat} {C5 : List Value} {B6 : Nat} {C6 : List Value}   {ds : List Nat} {M : Mem} {k : Nat} {I : Nat → LS → Prop} {Q : XE → LS → Prop}  {M0 : Mem} {a : An} {G : Gd} {C i kk : Nat} {b : Bool} {now : Ce} {f m : Rc} (hM0 : M0.base ≤ M0.size) (e : Ext M0 M) (he : [e0_0, e0_1, e0_2, e0_3, e0_4, e0_5, e0_6, e0_7, e0_8, e0_9, e0_10, e0_11, e0_12] = Enc.enc a) (ha : a.ok) (g : Gr M0 x0 G) (hf : f = clipF a.rect G.length C) (hm : m = comesA G C a) (fw : f.within G.length C) (mw : m.within G.length C) (hn : G.length ≤ 2 ^ 30) (hC2 : C ≤ 2 ^ 30) (h1 : C1 = Enc.enc f) (h3 : C3 = Enc.enc m)
    (hx12 : x12 = .int .i64 i) (hx13 : x13 = .int .i64 kk) (hx14 : x14 = .bool b) (hi : i ≤ 2 ^ 30) (hk : kk ≤ 2 ^ 30) (h4 : C4.length = 14) (h5 : C5 = Enc.enc now) (h6 : C6.length = 14) (b4 : M0.size ≤ B4) (s4 : B4 < M.size) (b6 : M0.size ≤ B6) (s6 : B6 < M.size)
    (ok : b = true → inR m i kk ∧ ∃ s, wasA G C a i kk s ∧ okW now s)
    (next : ∀ N, Ext M0 N → ∃ j, j < k ∧ I j (law12_changes_l5_s x0 x1 x7 x8 x12 (.int .i64 ((kk : Int) + 1)) B0 e0_0 e0_1 e0_2 e0_3 e0_4 e0_5 e0_6 e0_7 e0_8 e0_9 e0_10 e0_11 e0_12 B1 C1 B2 C2 B3 C3 ds N)) : wpC funs known ar law12_changes_c7 ⟨((.v x0) :: (.v x1) :: y2 :: y3 :: y4 :: (.loc 0 0) :: y6 :: (.v x7) :: (.v x8) :: (.loc 1 0) :: y10 :: (.loc 3 0) :: (.v x12) :: (.v x13) :: (.v x14) :: (.loc 4 0) :: (.loc 5 0) :: (.loc 6 0) :: y18 :: y19 :: y20 :: y21 :: y22 :: y23 :: y24 :: y25 :: y26 :: y27 :: y28 :: y29 :: y30 :: y31 :: y32 :: y33 :: y34 :: y35 :: y36 :: y37 :: y38 :: y39 :: y40 :: y41 :: y42 :: y43 :: y44 :: y45 :: y46 :: y47 :: y48 :: y49 :: y50 :: y51 :: y52 :: y53 :: y54 :: y55 :: y56 :: y57 :: y58 :: y59 :: y60 :: y61 :: y62 :: y63 :: y64 :: y65 :: y66 :: y67 :: y68 :: y69 :: y70 :: y71 :: y72 :: y73 :: y74 :: y75 :: y76 :: y77 :: y78 :: y79 :: y80 :: y81 :: y82 :: y83 :: y84 :: y85 :: y86 :: y87 :: y88 :: y89 :: y90 :: y91 :: y92 :: y93 :: y94 :: y95 :: y96 :: y97 :: y98 :: y99 :: y100 :: y101 :: y102 :: y103 :: y104 :: y105 :: y106 :: y107 :: y108 :: y109 :: y110 :: y111 :: y112 :: y113 :: y114 :: y115 :: y116 :: y117 :: y118 :: y119 :: y120 :: y121 :: y122 :: y123 :: y124 :: y125 :: y126 :: y127 :: y128 :: y129 :: y130 :: y131 :: y132 :: y133 :: y134 :: y135 :: y136 :: y137 :: y138 :: y139 :: y140 :: y141 :: y142 :: y143 :: y144 :: y145 :: y146 :: y147 :: y148 :: y149 :: y150 :: y151 :: y152 :: y153 :: y154 :: y155 :: y156 :: y157 :: y158 :: y159 :: y160 :: y161 :: y162 :: y163 :: y164 :: y165 :: y166 :: y167 :: y168 :: y169 :: y170 :: y171 :: y172 :: y173 :: y174 :: y175 :: y176 :: y177 :: y178 :: y179 :: y180 :: y181 :: y182 :: y183 :: y184 :: y185 :: y186 :: y187 :: y188 :: y189 :: y190 :: y191 :: y192 :: y193 :: y194 :: y195 :: y196 :: y197 :: y198 :: y199 :: y200 :: y201 :: y202 :: y203 :: y204 :: y205 :: y206 :: y207 :: y208 :: y209 :: y210 :: []), [⟨B0, [e0_0, e0_1, e0_2, e0_3, e0_4, e0_5, e0_6, e0_7, e0_8, e0_9, e0_10, e0_11, e0_12], 32⟩, ⟨B1, C1, 26⟩, ⟨B2, C2, 28⟩, ⟨B3, C3, 26⟩, ⟨B4, C4, 50⟩, ⟨B5, C5, 50⟩, ⟨B6, C6, 50⟩], ds, M⟩ (blockK 3 (seqK (fun s => wpC funs known ar (.region false [(MOper.mk (some 87) none 2 (.val (.tmp 13))), (MOper.mk (some 88) none 2 (.bin .add 0 [] (.tmp 87) (.const (.int .i64 1)))), (MOper.mk (some 13) none 2 (.val (.tmp 88)))]) s (cutK 4 (seqK (fun s' => ∃ j, j < k ∧ I j (s'.forget law12_changes_l5_m)) Q))) (cutK 4 (seqK (fun s' => ∃ j, j < k ∧ I j (s'.forget law12_changes_l5_m)) Q)))) := by
  obtain ⟨rfl, rfl, rfl, rfl, rfl, rfl, rfl, rfl, rfl, rfl, rfl, rfl, rfl⟩ : e0_0 = Value.int .u8 a.what ∧ e0_1 = Value.int .i64 a.t ∧ e0_2 = Value.int .i64 a.l ∧ e0_3 = Value.int .i64 a.r ∧ e0_4 = Value.int .i64 a.c ∧ e0_5 = Value.int .i64 a.row ∧ e0_6 = Value.int .i64 a.col ∧ e0_7 = Value.int .u8 a.d.rune ∧ e0_8 = Value.int .u8 a.d.marks ∧ e0_9 = Value.int .u8 a.d.attr ∧ e0_10 = Value.bool a.d.wide ∧ e0_11 = Value.bool a.d.high ∧ e0_12 = Value.int .u8 a.runes := by
    change _ = [Value.int .u8 a.what, .int .i64 a.t, .int .i64 a.l, .int .i64 a.r, .int .i64 a.c, .int .i64 a.row, .int .i64 a.col, .int .u8 a.d.rune, .int .u8 a.d.marks, .int .u8 a.d.attr, .bool a.d.wide, .bool a.d.high, .int .u8 a.runes] at he
    simpa only [List.cons.injEq, and_true] using he
  clear he
  subst h1 h3 h5 hx12 hx13 hx14
  refine law12_changes_c7_wp ?_
  refine ⟨.bool !b, rfl, ?_⟩
  cases b with
  | false => exact wpIf.tt (step_add (by omega) (by omega) (next _ e))
  | true =>
    refine wpIf.ff ?_
    obtain ⟨hin, s, hs, oks⟩ := ok rfl
    have hw := ha.what
    have kM := e.ok hM0
    refine step_rem8 (by omega) (by omega) (step_lss (wpIf.dec (fun c1 => ?_) (fun c1 => step_rem8 (by omega) (by omega) (step_lss (wpIf.dec (fun c2 => ?_) (fun c2 => ?_))))))
    · unfold wasA at hs
      rw [if_pos c1] at hs
      subst hs
      refine acell_W kM ha fun M6 e6 => ⟨e6.keep _, ⟨rfl, rfl, by rw [h4]; exact Nat.le_refl 14⟩, fun M7 hM7 => ?_⟩
      have e06 := e.trans e6
      have z6 := e6.size
      have e7 : Ext M0 M7 := hM7 ▸ e06.set b4 (by omega) _
      have z7 : M7.size = M6.size := by rw [hM7]; rfl
      exact changes_c8 e7 (splice_cell h4 _) rfl h6 b6 (by omega) rfl (by omega) oks next
    · unfold wasA at hs
      rw [if_neg c1, if_pos c2] at hs
      subst hs
      refine acell_W (freeze_ok _) ha fun M12 e12 => ⟨e12.keepF _, .agg (acellF a).attr.cells.toArray, rfl, ?_⟩
      have t12 := Ext.thaw e12
      refine acell_W (t12.ok kM) ha fun M15 e15 => ⟨e15.keep _, .int .u8 (acellF a).label, rfl, ?_⟩
      have t15 := t12.trans e15
      refine blank_W (t15.ok kM) fun M18 e18 => ⟨e18.keep _, ⟨rfl, rfl, by rw [h4]; exact Nat.le_refl 14⟩, fun M19 hM19 => ?_⟩
      have e018 := e.trans (t15.trans e18)
      have z18 := (t15.trans e18).size
      have e19 : Ext M0 M19 := hM19 ▸ e018.set b4 (by omega) _
      have z19 : M19.size = M18.size := by rw [hM19]; rfl
      exact changes_c8 e19 (splice_cell h4 _) rfl h6 b6 (by omega) rfl (by omega) oks next
    · unfold wasA at hs
      rw [if_neg c1, if_neg c2, ← hf, ← hm] at hs
      obtain ⟨L, hL, hLs⟩ := hs
      obtain ⟨⟨i1, i2⟩, i3, i4⟩ := hin
      have w1 := mw.t; have w2 := mw.l; have w3 := mw.r; have w4 := mw.c; have w5 := mw.b; have w6 := mw.e
      have v1 := fw.t; have v2 := fw.l; have v3 := fw.r; have v4 := fw.c; have v5 := fw.b; have v6 := fw.e
      refine LGet.mk (v := .int .i64 f.t) rfl (step_add (by omega) (by omega) (LGet.mk (v := .int .i64 m.t) rfl (step_sub (by omega) (by omega) ?_)))
      refine rdG (g.ext e) (by omega) hL fun _ x sx => ?_
      refine LGet.mk (v := .int .i64 f.l) rfl (step_add (by omega) (by omega) (LGet.mk (v := .int .i64 m.l) rfl (step_sub (by omega) (by omega) ?_)))
      refine rd sx (by omega) hLs fun _ => ⟨⟨rfl, rfl, by rw [h4]; exact Nat.le_refl 14⟩, fun M33 hM33 => ?_⟩
      have e33 : Ext M0 M33 := hM33 ▸ e.set b4 s4 _
      have z33 : M33.size = M.size := by rw [hM33]; rfl
      exact changes_c8 e33 (splice_cell h4 _) rfl h6 b6 (by omega) rfl (by omega) oks next
theorem changes_c6 {ar : Option Nat} {x0 x1 x7 x8 x12 x13 x14 : Value} {y2 y3 y4 y6 y10 y15 y16 y17 y18 y19 y20 y21 y22 y23 y24 y25 y26 y27 y28 y29 y30 y31 y32 y33 y34 y35 y36 y37 y38 y39 y40 y41 y42 y43 y44 y45 y46 y47 y48 y49 y50 y51 y52 y53 y54 y55 y56 y57 y58 y59 y60 y61 y62 y63 y64 y65 y66 y67 y68 y69 y70 y71 y72 y73 y74 y75 y76 y77 y78 y79 y80 y81 y82 y83 y84 y85 y86 y87 y88 y89 y90 y91 y92 y93 y94 y95 y96 y97 y98 y99 y100 y101 y102 y103 y104 y105 y106 y107 y108 y109 y110 y111 y112 y113 y114 y115 y116 y117 y118 y119 y120 y121 y122 y123 y124 y125 y126 y127 y128 y129 y130 y131 y132 y133 y134 y135 y136 y137 y138 y139 y140 y141 y142 y143 y144 y145 y146 y147 y148 y149 y150 y151 y152 y153 y154 y155 y156 y157 y158 y159 y160 y161 y162 y163 y164 y165 y166 y167 y168 y169 y170 y171 y172 y173 y174 y175 y176 y177 y178 y179 y180 y181 y182 y183 y184 y185 y186 y187 y188 y189 y190 y191 y192 y193 y194 y195 y196 y197 y198 y199 y200 y201 y202 y203 y204 y205 y206 y207 y208 y209 y210 : LV} {B0 : Nat} {e0_0 e0_1 e0_2 e0_3 e0_4 e0_5 e0_6 e0_7 e0_8 e0_9 e0_10 e0_11 e0_12 : Value} {B1 : Nat} {C1 : List Value} {B2 : Nat} {C2 : List Value} {B3 : Nat} {C3 : List Value}   {ds : List Nat} {M : Mem} {k : Nat} {I : Nat → LS → Prop} {Q : XE → LS → Prop}  {M0 : Mem} {a : An} {G N : Gd} {C i kk : Nat} {b : Bool} {L K : List Ce} {c d : Ce} {f m : Rc} (hM0 : M0.base ≤ M0.size) (e : Ext M0 M) (he : [e0_0, e0_1, e0_2, e0_3, e0_4, e0_5, e0_6, e0_7, e0_8, e0_9, e0_10, e0_11, e0_12] = Enc.enc a) (ha : a.ok) (g : Gr M0 x0 G) (gn : Gr M0 x1 N) (hf : f = clipF a.rect G.length C) (hm : m = comesA G C a) (fw : f.within G.length C) (mw : m.within G.length C) (hn : G.length ≤ 2 ^ 30) (hC2 : C ≤ 2 ^ 30) (h1 : C1 = Enc.enc f) (h3 : C3 = Enc.enc m)
    (hx12 : x12 = .int .i64 i) (hx13 : x13 = .int .i64 kk) (hx14 : x14 = .bool b) (hi : i ≤ 2 ^ 30) (hk : kk ≤ 2 ^ 30) (hL : G[i]? = some L) (hc : L[kk]? = some c) (hK : N[i]? = some K) (hd : K[kk]? = some d)
    (hb : b = true ↔ inR m i kk) (ok : if inR m i kk then ∃ s, wasA G C a i kk s ∧ okW d s else okW d c)
    (next : ∀ N, Ext M0 N → ∃ j, j < k ∧ I j (law12_changes_l5_s x0 x1 x7 x8 x12 (.int .i64 ((kk : Int) + 1)) B0 e0_0 e0_1 e0_2 e0_3 e0_4 e0_5 e0_6 e0_7 e0_8 e0_9 e0_10 e0_11 e0_12 B1 C1 B2 C2 B3 C3 ds N)) : wpC funs known ar law12_changes_c6 ⟨((.v x0) :: (.v x1) :: y2 :: y3 :: y4 :: (.loc 0 0) :: y6 :: (.v x7) :: (.v x8) :: (.loc 1 0) :: y10 :: (.loc 3 0) :: (.v x12) :: (.v x13) :: (.v x14) :: y15 :: y16 :: y17 :: y18 :: y19 :: y20 :: y21 :: y22 :: y23 :: y24 :: y25 :: y26 :: y27 :: y28 :: y29 :: y30 :: y31 :: y32 :: y33 :: y34 :: y35 :: y36 :: y37 :: y38 :: y39 :: y40 :: y41 :: y42 :: y43 :: y44 :: y45 :: y46 :: y47 :: y48 :: y49 :: y50 :: y51 :: y52 :: y53 :: y54 :: y55 :: y56 :: y57 :: y58 :: y59 :: y60 :: y61 :: y62 :: y63 :: y64 :: y65 :: y66 :: y67 :: y68 :: y69 :: y70 :: y71 :: y72 :: y73 :: y74 :: y75 :: y76 :: y77 :: y78 :: y79 :: y80 :: y81 :: y82 :: y83 :: y84 :: y85 :: y86 :: y87 :: y88 :: y89 :: y90 :: y91 :: y92 :: y93 :: y94 :: y95 :: y96 :: y97 :: y98 :: y99 :: y100 :: y101 :: y102 :: y103 :: y104 :: y105 :: y106 :: y107 :: y108 :: y109 :: y110 :: y111 :: y112 :: y113 :: y114 :: y115 :: y116 :: y117 :: y118 :: y119 :: y120 :: y121 :: y122 :: y123 :: y124 :: y125 :: y126 :: y127 :: y128 :: y129 :: y130 :: y131 :: y132 :: y133 :: y134 :: y135 :: y136 :: y137 :: y138 :: y139 :: y140 :: y141 :: y142 :: y143 :: y144 :: y145 :: y146 :: y147 :: y148 :: y149 :: y150 :: y151 :: y152 :: y153 :: y154 :: y155 :: y156 :: y157 :: y158 :: y159 :: y160 :: y161 :: y162 :: y163 :: y164 :: y165 :: y166 :: y167 :: y168 :: y169 :: y170 :: y171 :: y172 :: y173 :: y174 :: y175 :: y176 :: y177 :: y178 :: y179 :: y180 :: y181 :: y182 :: y183 :: y184 :: y185 :: y186 :: y187 :: y188 :: y189 :: y190 :: y191 :: y192 :: y193 :: y194 :: y195 :: y196 :: y197 :: y198 :: y199 :: y200 :: y201 :: y202 :: y203 :: y204 :: y205 :: y206 :: y207 :: y208 :: y209 :: y210 :: []), [⟨B0, [e0_0, e0_1, e0_2, e0_3, e0_4, e0_5, e0_6, e0_7, e0_8, e0_9, e0_10, e0_11, e0_12], 32⟩, ⟨B1, C1, 26⟩, ⟨B2, C2, 28⟩, ⟨B3, C3, 26⟩], ds, M⟩ (blockK 3 (seqK (fun s => wpC funs known ar (.region false [(MOper.mk (some 87) none 2 (.val (.tmp 13))), (MOper.mk (some 88) none 2 (.bin .add 0 [] (.tmp 87) (.const (.int .i64 1)))), (MOper.mk (some 13) none 2 (.val (.tmp 88)))]) s (cutK 4 (seqK (fun s' => ∃ j, j < k ∧ I j (s'.forget law12_changes_l5_m)) Q))) (cutK 4 (seqK (fun s' => ∃ j, j < k ∧ I j (s'.forget law12_changes_l5_m)) Q)))) := by
  subst hx12 hx13 hx14
  refine law12_changes_c6_wp ?_
  have kM := e.ok hM0
  have z := e.size
  refine rdG (g.ext e) (by omega) (by rw [Int.toNat_natCast]; exact hL) fun _ x sx => rd sx (by omega) (by rw [Int.toNat_natCast]; exact hc) fun _ => ?_
  refine rdG (gn.ext e) (by omega) (by rw [Int.toNat_natCast]; exact hK) fun _ y sy => rd sy (by omega) (by rw [Int.toNat_natCast]; exact hd) fun _ => ?_
  have e10 : Ext M.freeze (M.freeze.push .dead) := Ext.push _ _
  have t10 := Ext.thaw e10
  refine ⟨_, _, rfl, e10.keepF _, ?_⟩
  have z10 : ((M.freeze.push AObj.dead).thaw M.base).size = M.size + 1 := rfl
  have g10 : ((M.freeze.push AObj.dead).thaw M.base).get M.size = some .dead := by
    show (M.freeze.push AObj.dead).get M.size = _
    rw [Mem.get_push]; exact if_pos rfl
  generalize (M.freeze.push AObj.dead).thaw M.base = R at t10 z10 g10 ⊢
  have e12 : Ext R.freeze (R.freeze.push .dead) := Ext.push _ _
  have t12 := Ext.thaw e12
  refine ⟨_, _, rfl, e12.keepF _, M.size, rfl, ?_⟩
  have bR : R.base = M.base := t10.base
  rw [← bR]
  have z12 : ((R.freeze.push AObj.dead).thaw R.base).size = R.size + 1 := rfl
  have g12 : ((R.freeze.push AObj.dead).thaw R.base).get R.size = some .dead := by
    show (R.freeze.push AObj.dead).get R.size = _
    rw [Mem.get_push]; exact if_pos rfl
  have g12' : ((R.freeze.push AObj.dead).thaw R.base).get M.size = some .dead := t12.same g10
  have b12 : ((R.freeze.push AObj.dead).thaw R.base).base = R.base := rfl
  have hRs : R.freeze.size = R.size := rfl
  generalize (R.freeze.push AObj.dead).thaw R.base = S at t12 z12 g12 g12' b12 ⊢
  refine ⟨⟨g12', by omega⟩, ⟨rfl, rfl⟩, fun M14 hM14 => ?_⟩
  have t14 : Ext M M14 := hM14 ▸ (t10.trans t12).set (by omega) (by omega) _
  have z14 : M14.size = S.size := by rw [hM14]; rfl
  refine ⟨R.size, rfl, ⟨?_, ?_⟩, ⟨rfl, rfl⟩, fun M16 hM16 => ?_⟩
  · rw [hM14, Mem.get_set _ _ _ (by omega), if_neg (by omega)]; exact g12
  · have := t14.base; omega
  have t16 : Ext M M16 := hM16 ▸ t14.set (by omega) (by omega) _
  have z16 : M16.size = S.size := by rw [hM16]; exact z14
  refine LGetN.as (.agg c.attr.cells.toArray) (by exact Nat.le_of_ble_eq_true rfl) rfl (LGet.mk (v := .int .u8 c.label) rfl ⟨c.bare.val, rfl, rfl, fun b20 M21 hb20 hM21 => ⟨⟨rfl, rfl, by exact Nat.le_refl 14⟩, fun M22 hM22 => ?_⟩⟩)
  have t21 : Ext M M21 := t16.trans (Ext.push' hM21)
  have z21 : M21.size = M16.size + 1 := by rw [hM21]; rfl
  have t22 : Ext M M22 := hM22 ▸ t21.set (by omega) (by omega) _
  have z22 : M22.size = M21.size := by rw [hM22]; rfl
  have e22 := e.trans t22
  have hspl := splice_cell (L := [(.int .i32 0), (.int .i32 0), (.int .i32 0), (.int .u8 0), (.int .u8 0), (.int .u8 0), (.int .u8 0), (.int .u8 0), (.int .u8 0), (.int .u8 0), (.int .u8 0), (.int .u8 0), (.int .u16 0), (.int .u8 0)]) rfl c.bare
  refine ⟨.bool !b, rfl, ?_⟩
  cases b with
  | true =>
    have hin := hb.1 rfl
    rw [if_pos hin] at ok
    refine wpIf.ff ?_
    exact changes_c7 hM0 e22 he ha g hf hm fw mw hn hC2 h1 h3 rfl rfl rfl hi hk rfl rfl (by rw [hspl]; rfl) (by omega) (by omega) (by omega) (by omega) (fun _ => ⟨hin, ok⟩) next
  | false =>
    have hin : ¬ inR m i kk := fun h => Bool.noConfusion (hb.2 h)
    rw [if_neg hin] at ok
    refine wpIf.tt ?_
    refine LGetN.as d.val (by exact Nat.le_refl 14) rfl (LGetN.as c.val (by exact Nat.le_refl 14) rfl (step_neqCe (wpIf.dec (fun h => ?_) (fun h => ?_))))
    · rcases ok with rfl | ⟨k1, k2⟩
      · exact absurd rfl h
      refine LGet.mk (v := .int .u8 c.kind) rfl (s_eqF k1 (wpIf.ff (LGetN.as d.val (by exact Nat.le_refl 14) rfl (LGetN.as c.bare.val (by rw [hspl]; exact Nat.le_refl 14) (by rw [hspl]; rfl) (step_neqCe (wpIf.dec (fun h => absurd k2 h) (fun _ => ?_)))))))
      exact changes_c7 hM0 e22 he ha g hf hm fw mw hn hC2 h1 h3 rfl rfl rfl hi hk rfl rfl (by rw [hspl]; rfl) (by omega) (by omega) (by omega) (by omega) (fun h => Bool.noConfusion h) next
    · exact changes_c7 hM0 e22 he ha g hf hm fw mw hn hC2 h1 h3 rfl rfl rfl hi hk rfl rfl (by rw [hspl]; rfl) (by omega) (by omega) (by omega) (by omega) (fun h => Bool.noConfusion h) next
end Go.Proofs.Ytklnbkacnghdnaa.Run
