/- The law RectWhole of chapter 12, as a run of this session's own interpreter. -/
import Derived.Test.YtklnbkacnghdnaaWholeC
import Derived.Test.YtklnbkacnghdnaaVcW
namespace Go.Proofs.Ytklnbkacnghdnaa.Run
open Go Go.RowKit
set_option linter.unusedVariables false
set_option linter.unusedSimpArgs false
set_option maxRecDepth 100000
abbrev ci3 (P : Mem) (R C : Nat) (x0 x1 : Value) (B0 : Nat) (e0_0 e0_1 e0_2 e0_3 e0_4 e0_5 e0_6 e0_7 e0_8 e0_9 e0_10 e0_11 e0_12 : Value) (B1 : Nat) (C1 : List Value) (B2 : Nat) (C2 : List Value) (B3 : Nat) (C3 : List Value) : Nat → LS → Prop := fun k s => ∃ (i : Nat) (M' : Mem), s = law12_changes_l3_s x0 x1 (.int .i64 R) (.int .i64 C) (.int .i64 i) B0 e0_0 e0_1 e0_2 e0_3 e0_4 e0_5 e0_6 e0_7 e0_8 e0_9 e0_10 e0_11 e0_12 B1 C1 B2 C2 B3 C3 [] M' ∧ Ext P M' ∧ i ≤ R ∧ k = R - i
abbrev ci5 (P : Mem) (R C : Nat) (x0 x1 : Value) (i : Nat) (B0 : Nat) (e0_0 e0_1 e0_2 e0_3 e0_4 e0_5 e0_6 e0_7 e0_8 e0_9 e0_10 e0_11 e0_12 : Value) (B1 : Nat) (C1 : List Value) (B2 : Nat) (C2 : List Value) (B3 : Nat) (C3 : List Value) : Nat → LS → Prop := fun k s => ∃ (j : Nat) (M' : Mem), s = law12_changes_l5_s x0 x1 (.int .i64 R) (.int .i64 C) (.int .i64 i) (.int .i64 j) B0 e0_0 e0_1 e0_2 e0_3 e0_4 e0_5 e0_6 e0_7 e0_8 e0_9 e0_10 e0_11 e0_12 B1 C1 B2 C2 B3 C3 [] M' ∧ Ext P M' ∧ j ≤ C ∧ k = C - j
theorem changes_c1 {x0 x1 x7 x8 : Value} {y2 y3 y4 y6 y10 y12 y13 y14 y15 y16 y17 y18 y19 y20 y21 y22 y23 y24 y25 y26 y27 y28 y29 y30 y31 y32 y33 y34 y35 y36 y37 y38 y39 y40 y41 y42 y43 y44 y45 y46 y47 y48 y49 y50 y51 y52 y53 y54 y55 y56 y57 y58 y59 y60 y61 y62 y63 y64 y65 y66 y67 y68 y69 y70 y71 y72 y73 y74 y75 y76 y77 y78 y79 y80 y81 y82 y83 y84 y85 y86 y87 y88 y89 y90 y91 y92 y93 y94 y95 y96 y97 y98 y99 y100 y101 y102 y103 y104 y105 y106 y107 y108 y109 y110 y111 y112 y113 y114 y115 y116 y117 y118 y119 y120 y121 y122 y123 y124 y125 y126 y127 y128 y129 y130 y131 y132 y133 y134 y135 y136 y137 y138 y139 y140 y141 y142 y143 y144 y145 y146 y147 y148 y149 y150 y151 y152 y153 y154 y155 y156 y157 y158 y159 y160 y161 y162 y163 y164 y165 y166 y167 y168 y169 y170 y171 y172 y173 y174 y175 y176 y177 y178 y179 y180 y181 y182 y183 y184 y185 y186 y187 y188 y189 y190 y191 y192 y193 y194 y195 y196 y197 y198 y199 y200 y201 y202 y203 y204 y205 y206 y207 y208 y209 y210 : LV} {B0 : Nat} {e0_0 e0_1 e0_2 e0_3 e0_4 e0_5 e0_6 e0_7 e0_8 e0_9 e0_10 e0_11 e0_12 : Value} {B1 : Nat} {C1 : List Value} {B2 : Nat} {C2 : List Value} {B3 : Nat} {C3 : List Value}   {M : Mem} {Q : Value → Mem → Prop}  {a : An} {G N : Gd} {C : Nat} {f m : Rc} (hM : M.base ≤ M.size) (he : [e0_0, e0_1, e0_2, e0_3, e0_4, e0_5, e0_6, e0_7, e0_8, e0_9, e0_10, e0_11, e0_12] = Enc.enc a) (ha : a.ok) (g : Gr M x0 G) (gn : Gr M x1 N) (hC : Flush G C) (hf : f = clipF a.rect G.length C) (hm : m = comesA G C a) (fw : f.within G.length C) (mw : m.within G.length C) (hn : G.length ≤ 2 ^ 30) (hC2 : C ≤ 2 ^ 30) (h1 : C1 = Enc.enc f) (h3 : C3 = Enc.enc m)
    (hx7 : x7 = .int .i64 G.length) (hx8 : x8 = .int .i64 C)
    (cell : ∀ (i k : Nat) (L : List Ce) (c : Ce), G[i]? = some L → L[k]? = some c → ∃ K d, N[i]? = some K ∧ K[k]? = some d ∧ (if inR m i k then ∃ s, wasA G C a i k s ∧ okW d s else okW d c))
    (q : ∀ M', Ext M M' → Q (.bool true) M') : wpC funs known none law12_changes_c1 ⟨((.v x0) :: (.v x1) :: y2 :: y3 :: y4 :: (.loc 0 0) :: y6 :: (.v x7) :: (.v x8) :: (.loc 1 0) :: y10 :: (.loc 3 0) :: y12 :: y13 :: y14 :: y15 :: y16 :: y17 :: y18 :: y19 :: y20 :: y21 :: y22 :: y23 :: y24 :: y25 :: y26 :: y27 :: y28 :: y29 :: y30 :: y31 :: y32 :: y33 :: y34 :: y35 :: y36 :: y37 :: y38 :: y39 :: y40 :: y41 :: y42 :: y43 :: y44 :: y45 :: y46 :: y47 :: y48 :: y49 :: y50 :: y51 :: y52 :: y53 :: y54 :: y55 :: y56 :: y57 :: y58 :: y59 :: y60 :: y61 :: y62 :: y63 :: y64 :: y65 :: y66 :: y67 :: y68 :: y69 :: y70 :: y71 :: y72 :: y73 :: y74 :: y75 :: y76 :: y77 :: y78 :: y79 :: y80 :: y81 :: y82 :: y83 :: y84 :: y85 :: y86 :: y87 :: y88 :: y89 :: y90 :: y91 :: y92 :: y93 :: y94 :: y95 :: y96 :: y97 :: y98 :: y99 :: y100 :: y101 :: y102 :: y103 :: y104 :: y105 :: y106 :: y107 :: y108 :: y109 :: y110 :: y111 :: y112 :: y113 :: y114 :: y115 :: y116 :: y117 :: y118 :: y119 :: y120 :: y121 :: y122 :: y123 :: y124 :: y125 :: y126 :: y127 :: y128 :: y129 :: y130 :: y131 :: y132 :: y133 :: y134 :: y135 :: y136 :: y137 :: y138 :: y139 :: y140 :: y141 :: y142 :: y143 :: y144 :: y145 :: y146 :: y147 :: y148 :: y149 :: y150 :: y151 :: y152 :: y153 :: y154 :: y155 :: y156 :: y157 :: y158 :: y159 :: y160 :: y161 :: y162 :: y163 :: y164 :: y165 :: y166 :: y167 :: y168 :: y169 :: y170 :: y171 :: y172 :: y173 :: y174 :: y175 :: y176 :: y177 :: y178 :: y179 :: y180 :: y181 :: y182 :: y183 :: y184 :: y185 :: y186 :: y187 :: y188 :: y189 :: y190 :: y191 :: y192 :: y193 :: y194 :: y195 :: y196 :: y197 :: y198 :: y199 :: y200 :: y201 :: y202 :: y203 :: y204 :: y205 :: y206 :: y207 :: y208 :: y209 :: y210 :: []), [⟨B0, [e0_0, e0_1, e0_2, e0_3, e0_4, e0_5, e0_6, e0_7, e0_8, e0_9, e0_10, e0_11, e0_12], 32⟩, ⟨B1, C1, 26⟩, ⟨B2, C2, 28⟩, ⟨B3, C3, 26⟩], [], M⟩ (retK mf27 Q) := by
  subst hx7 hx8
  refine law12_changes_c1_wp ?_
  refine ⟨law12_changes_l3_m, ci3 M G.length C x0 x1 B0 e0_0 e0_1 e0_2 e0_3 e0_4 e0_5 e0_6 e0_7 e0_8 e0_9 e0_10 e0_11 e0_12 B1 C1 B2 C2 B3 C3, ⟨G.length, 0, M, rfl, Ext.refl _, Nat.zero_le _, rfl⟩, ?_⟩
  rintro k s ⟨i, M', rfl, e', hi, rfl⟩
  refine law12_changes_l3_wp (I := ci3 M G.length C x0 x1 B0 e0_0 e0_1 e0_2 e0_3 e0_4 e0_5 e0_6 e0_7 e0_8 e0_9 e0_10 e0_11 e0_12 B1 C1 B2 C2 B3 C3) (step_lss (wpIf.dec (fun g1 => ?_) (fun g1 => ?_)))
  · refine ⟨law12_changes_l5_m, ci5 M G.length C x0 x1 i B0 e0_0 e0_1 e0_2 e0_3 e0_4 e0_5 e0_6 e0_7 e0_8 e0_9 e0_10 e0_11 e0_12 B1 C1 B2 C2 B3 C3, ⟨C, 0, M', rfl, e', Nat.zero_le _, rfl⟩, ?_⟩
    rintro k s ⟨j, M2, rfl, e2, hj, rfl⟩
    refine law12_changes_l5_wp (I := ci5 M G.length C x0 x1 i B0 e0_0 e0_1 e0_2 e0_3 e0_4 e0_5 e0_6 e0_7 e0_8 e0_9 e0_10 e0_11 e0_12 B1 C1 B2 C2 B3 C3) (step_lss (wpIf.dec (fun g2 => ?_) (fun g2 => ?_)))
    · obtain ⟨L, hL⟩ : ∃ L, G[i]? = some L := ⟨_, List.getElem?_eq_getElem (by omega)⟩
      have hLl := hC L (List.mem_of_getElem? hL)
      obtain ⟨c, hc⟩ : ∃ c, L[j]? = some c := ⟨_, List.getElem?_eq_getElem (by omega)⟩
      obtain ⟨K, d, hK, hd, ok⟩ := cell i j L c hL hc
      have next : ∀ N, Ext M N → ∃ j', j' < C - j ∧ ci5 M G.length C x0 x1 i B0 e0_0 e0_1 e0_2 e0_3 e0_4 e0_5 e0_6 e0_7 e0_8 e0_9 e0_10 e0_11 e0_12 B1 C1 B2 C2 B3 C3 j' (law12_changes_l5_s x0 x1 (.int .i64 G.length) (.int .i64 C) (.int .i64 i) (.int .i64 ((j : Int) + 1)) B0 e0_0 e0_1 e0_2 e0_3 e0_4 e0_5 e0_6 e0_7 e0_8 e0_9 e0_10 e0_11 e0_12 B1 C1 B2 C2 B3 C3 [] N) := fun N eN => ⟨C - (j + 1), by omega, j + 1, N, rfl, eN, by omega, rfl⟩
      have w1 := mw.t; have w2 := mw.l; have w3 := mw.r; have w4 := mw.c; have w5 := mw.b; have w6 := mw.e
      subst h3
      have no : ¬ inR m i j → ((false = true) ↔ inR m i j) := fun h => ⟨fun h' => Bool.noConfusion h', fun h' => absurd h' h⟩
      refine LGet.mk (v := .int .i64 m.t) rfl (step_geq (wpIf.dec (fun k1 => ?_) (fun k1 => ?_)))
      · refine LGet.mk (v := .int .i64 m.t) rfl (LGet.mk (v := .int .i64 m.r) rfl (step_add (by omega) (by omega) (step_lss (wpIf.dec (fun k2 => ?_) (fun k2 => ?_)))))
        · refine LGet.mk (v := .int .i64 m.l) rfl (step_geq (wpIf.dec (fun k3 => ?_) (fun k3 => ?_)))
          · refine LGet.mk (v := .int .i64 m.l) rfl (LGet.mk (v := .int .i64 m.c) rfl (step_add (by omega) (by omega) (step_lss ?_)))
            exact changes_c6 hM e2 he ha g gn hf hm fw mw hn hC2 h1 rfl rfl rfl rfl (by omega) (by omega) hL hc hK hd (by rw [decide_eq_true_iff]; exact ⟨fun h => ⟨⟨by omega, k2⟩, by omega, h⟩, fun h => h.2.2⟩) ok next
          · exact changes_c6 hM e2 he ha g gn hf hm fw mw hn hC2 h1 rfl rfl rfl rfl (by omega) (by omega) hL hc hK hd (no fun h => k3 h.2.1) ok next
        · exact changes_c6 hM e2 he ha g gn hf hm fw mw hn hC2 h1 rfl rfl rfl rfl (by omega) (by omega) hL hc hK hd (no fun h => k2 h.1.2) ok next
      · exact changes_c6 hM e2 he ha g gn hf hm fw mw hn hC2 h1 rfl rfl rfl rfl (by omega) (by omega) hL hc hK hd (no fun h => k1 h.1.1) ok next
    · exact blockK.hit (blockK.n (seqK.n (law12_changes_c4_wp (step_add (by omega) (by omega) ⟨G.length - (i + 1), by omega, i + 1, M2, rfl, e2, by omega, rfl⟩))))
  · exact blockK.hit (law12_changes_c2_wp (q _ e'))
theorem splice_rc {L : List Value} (h : L.length = 4) (c : Rc) : splice L 0 (Value.cells c.val).toList = Enc.enc c := by
  unfold splice
  rw [List.take_zero, List.nil_append]
  have : (L.drop (0 + (Value.cells c.val).toList.length)) = [] := List.drop_eq_nil_of_le (by rw [h]; exact Nat.le_refl 4)
  rw [this, List.append_nil]
  rfl
set_option maxHeartbeats 4000000 in
theorem changes_c0 {x0 x1 x7 x8 : Value} {y2 y3 y4 y6 y11 y12 y13 y14 y15 y16 y17 y18 y19 y20 y21 y22 y23 y24 y25 y26 y27 y28 y29 y30 y31 y32 y33 y34 y35 y36 y37 y38 y39 y40 y41 y42 y43 y44 y45 y46 y47 y48 y49 y50 y51 y52 y53 y54 y55 y56 y57 y58 y59 y60 y61 y62 y63 y64 y65 y66 y67 y68 y69 y70 y71 y72 y73 y74 y75 y76 y77 y78 y79 y80 y81 y82 y83 y84 y85 y86 y87 y88 y89 y90 y91 y92 y93 y94 y95 y96 y97 y98 y99 y100 y101 y102 y103 y104 y105 y106 y107 y108 y109 y110 y111 y112 y113 y114 y115 y116 y117 y118 y119 y120 y121 y122 y123 y124 y125 y126 y127 y128 y129 y130 y131 y132 y133 y134 y135 y136 y137 y138 y139 y140 y141 y142 y143 y144 y145 y146 y147 y148 y149 y150 y151 y152 y153 y154 y155 y156 y157 y158 y159 y160 y161 y162 y163 y164 y165 y166 y167 y168 y169 y170 y171 y172 y173 y174 y175 y176 y177 y178 y179 y180 y181 y182 y183 y184 y185 y186 y187 y188 y189 y190 y191 y192 y193 y194 y195 y196 y197 y198 y199 y200 y201 y202 y203 y204 y205 y206 y207 y208 y209 y210 : LV} {B0 : Nat} {e0_0 e0_1 e0_2 e0_3 e0_4 e0_5 e0_6 e0_7 e0_8 e0_9 e0_10 e0_11 e0_12 : Value} {B1 : Nat} {C1 : List Value} {B2 : Nat} {C2 : List Value}   {M : Mem} {Q : Value → Mem → Prop}  {a : An} {G N : Gd} {C : Nat} {f : Rc} {u v : Int} (hM : M.base ≤ M.size) (he : [e0_0, e0_1, e0_2, e0_3, e0_4, e0_5, e0_6, e0_7, e0_8, e0_9, e0_10, e0_11, e0_12] = Enc.enc a) (ha : a.ok) (g : Gr M x0 G) (gn : Gr M x1 N) (hC : Flush G C) (hf : f = clipF a.rect G.length C) (fw : f.within G.length C) (hn : G.length ≤ 2 ^ 30) (hC2 : C ≤ 2 ^ 30) (h1 : C1 = Enc.enc f) (h2 : C2 = [.int .i64 u, .int .i64 v]) (hu : I64 u) (hv : I64 v)
    (hcm : comesA G C a = if (a.what % 8 > 3 ∧ (u < 0 ∨ v < 0)) ∨ (a.what % 8 < 2 ∧ a.runes % 8 = 7) then zeroR else clipF ⟨u, v, f.r, f.c⟩ G.length C)
    (hx7 : x7 = .int .i64 G.length) (hx8 : x8 = .int .i64 C)
    (cell : ∀ (i k : Nat) (L : List Ce) (c : Ce), G[i]? = some L → L[k]? = some c → ∃ K d, N[i]? = some K ∧ K[k]? = some d ∧ (if inR (comesA G C a) i k then ∃ s, wasA G C a i k s ∧ okW d s else okW d c))
    (q : ∀ M', Ext M M' → Q (.bool true) M') : wpC funs known none law12_changes_c0 ⟨((.v x0) :: (.v x1) :: y2 :: y3 :: y4 :: (.loc 0 0) :: y6 :: (.v x7) :: (.v x8) :: (.loc 1 0) :: (.loc 2 0) :: y11 :: y12 :: y13 :: y14 :: y15 :: y16 :: y17 :: y18 :: y19 :: y20 :: y21 :: y22 :: y23 :: y24 :: y25 :: y26 :: y27 :: y28 :: y29 :: y30 :: y31 :: y32 :: y33 :: y34 :: y35 :: y36 :: y37 :: y38 :: y39 :: y40 :: y41 :: y42 :: y43 :: y44 :: y45 :: y46 :: y47 :: y48 :: y49 :: y50 :: y51 :: y52 :: y53 :: y54 :: y55 :: y56 :: y57 :: y58 :: y59 :: y60 :: y61 :: y62 :: y63 :: y64 :: y65 :: y66 :: y67 :: y68 :: y69 :: y70 :: y71 :: y72 :: y73 :: y74 :: y75 :: y76 :: y77 :: y78 :: y79 :: y80 :: y81 :: y82 :: y83 :: y84 :: y85 :: y86 :: y87 :: y88 :: y89 :: y90 :: y91 :: y92 :: y93 :: y94 :: y95 :: y96 :: y97 :: y98 :: y99 :: y100 :: y101 :: y102 :: y103 :: y104 :: y105 :: y106 :: y107 :: y108 :: y109 :: y110 :: y111 :: y112 :: y113 :: y114 :: y115 :: y116 :: y117 :: y118 :: y119 :: y120 :: y121 :: y122 :: y123 :: y124 :: y125 :: y126 :: y127 :: y128 :: y129 :: y130 :: y131 :: y132 :: y133 :: y134 :: y135 :: y136 :: y137 :: y138 :: y139 :: y140 :: y141 :: y142 :: y143 :: y144 :: y145 :: y146 :: y147 :: y148 :: y149 :: y150 :: y151 :: y152 :: y153 :: y154 :: y155 :: y156 :: y157 :: y158 :: y159 :: y160 :: y161 :: y162 :: y163 :: y164 :: y165 :: y166 :: y167 :: y168 :: y169 :: y170 :: y171 :: y172 :: y173 :: y174 :: y175 :: y176 :: y177 :: y178 :: y179 :: y180 :: y181 :: y182 :: y183 :: y184 :: y185 :: y186 :: y187 :: y188 :: y189 :: y190 :: y191 :: y192 :: y193 :: y194 :: y195 :: y196 :: y197 :: y198 :: y199 :: y200 :: y201 :: y202 :: y203 :: y204 :: y205 :: y206 :: y207 :: y208 :: y209 :: y210 :: []), [⟨B0, [e0_0, e0_1, e0_2, e0_3, e0_4, e0_5, e0_6, e0_7, e0_8, e0_9, e0_10, e0_11, e0_12], 32⟩, ⟨B1, C1, 26⟩, ⟨B2, C2, 28⟩], [], M⟩ (retK mf27 Q) := by
  subst hx7 hx8 h2 h1
  have he0 := he
  obtain ⟨rfl, rfl, rfl, rfl, rfl, rfl, rfl, rfl, rfl, rfl, rfl, rfl, rfl⟩ : e0_0 = Value.int .u8 a.what ∧ e0_1 = Value.int .i64 a.t ∧ e0_2 = Value.int .i64 a.l ∧ e0_3 = Value.int .i64 a.r ∧ e0_4 = Value.int .i64 a.c ∧ e0_5 = Value.int .i64 a.row ∧ e0_6 = Value.int .i64 a.col ∧ e0_7 = Value.int .u8 a.d.rune ∧ e0_8 = Value.int .u8 a.d.marks ∧ e0_9 = Value.int .u8 a.d.attr ∧ e0_10 = Value.bool a.d.wide ∧ e0_11 = Value.bool a.d.high ∧ e0_12 = Value.int .u8 a.runes := by
    change _ = [Value.int .u8 a.what, .int .i64 a.t, .int .i64 a.l, .int .i64 a.r, .int .i64 a.c, .int .i64 a.row, .int .i64 a.col, .int .u8 a.d.rune, .int .u8 a.d.marks, .int .u8 a.d.attr, .bool a.d.wide, .bool a.d.high, .int .u8 a.runes] at he
    simpa only [List.cons.injEq, and_true] using he
  clear he
  have hw := ha.what
  have hr := ha.runes
  have v1 := fw.t; have v2 := fw.l; have v3 := fw.r; have v4 := fw.c; have v5 := fw.b; have v6 := fw.e
  refine law12_changes_c0_wp ?_
  refine LGet.mk (v := .int .i64 u) rfl (LGet.mk (v := .int .i64 v) rfl (LGet.mk (v := .int .i64 f.r) rfl (LGet.mk (v := .int .i64 f.c) rfl ⟨(Rc.mk u v f.r f.c).val, rfl, ?_⟩)))
  refine clip_W hM (a := ⟨u, v, f.r, f.c⟩) ⟨hu, hv, ⟨by show _ ≤ f.r; omega, by show f.r ≤ _; omega⟩, ⟨by show _ ≤ f.c; omega, by show f.c ≤ _; omega⟩⟩ ⟨by omega, by omega⟩ ⟨by omega, by omega⟩ fun M7 e7 => ⟨e7.keep _, rfl, fun b8 M9 hb8 hM9 => ⟨⟨rfl, rfl, by exact Nat.le_refl 4⟩, fun M10 hM10 => ?_⟩⟩
  have cw := clip_within (a := ⟨u, v, f.r, f.c⟩) (R := (G.length : Int)) (C := (C : Int)) (by omega) (by omega)
  generalize clipF ⟨u, v, f.r, f.c⟩ G.length C = m at *
  have z7 := e7.size
  have e9 : Ext M M9 := e7.trans (Ext.push' hM9)
  have z9 : M9.size = M7.size + 1 := by rw [hM9]; rfl
  have e10 : Ext M M10 := hM10 ▸ e9.set (by omega) (by omega) _
  have z10 : M10.size = M9.size := by rw [hM10]; rfl
  have hs0 := splice_rc (L := [(.int .i64 0), (.int .i64 0), (.int .i64 0), (.int .i64 0)]) rfl m
  have hl0 : (splice [(.int .i64 0), (.int .i64 0), (.int .i64 0), (.int .i64 0)] 0 (Value.cells m.val).toList).length = 4 := by rw [hs0]; rfl
  have hsz := splice_rc hl0 zeroR
  have zz : ∀ {M17 : Mem} {o : AObj}, M17 = M10.set b8 o → Ext M M17 := fun h => h ▸ e10.set (by omega) (by omega) _
  refine step_rem8 (by omega) (by omega) (step_gtr (wpIf.dec (fun c1 => ?_) (fun c1 => ?_)))
  · refine LGet.mk (v := .int .i64 u) rfl (step_lss (wpIf.dec (fun c2 => ?_) (fun c2 => LGet.mk (v := .int .i64 v) rfl (step_lss (wpIf.dec (fun c3 => ?_) (fun c3 => ?_))))))
    · refine ⟨zeroR.val, rfl, ⟨rfl, rfl, by rw [hl0]; exact Nat.le_refl 4⟩, fun M17 hM17 => ?_⟩
      exact changes_c1 ((zz hM17).ok hM) he0 ha (g.ext (zz hM17)) (gn.ext (zz hM17)) hC hf (hcm.trans (if_pos (.inl ⟨c1, .inl c2⟩))).symm fw (zeroR_within _ _) hn hC2 rfl hsz rfl rfl ((hcm.trans (if_pos (.inl ⟨c1, .inl c2⟩))) ▸ cell) (fun M' e' => q _ ((zz hM17).trans e'))
    · refine ⟨zeroR.val, rfl, ⟨rfl, rfl, by rw [hl0]; exact Nat.le_refl 4⟩, fun M17 hM17 => ?_⟩
      exact changes_c1 ((zz hM17).ok hM) he0 ha (g.ext (zz hM17)) (gn.ext (zz hM17)) hC hf (hcm.trans (if_pos (.inl ⟨c1, .inr c3⟩))).symm fw (zeroR_within _ _) hn hC2 rfl hsz rfl rfl ((hcm.trans (if_pos (.inl ⟨c1, .inr c3⟩))) ▸ cell) (fun M' e' => q _ ((zz hM17).trans e'))
    · refine step_rem8 (by omega) (by omega) (step_lss (wpIf.dec (fun c4 => absurd c4 (by omega)) (fun c4 => ?_)))
      have hc := hcm.trans (if_neg (by omega))
      exact changes_c1 (e10.ok hM) he0 ha (g.ext e10) (gn.ext e10) hC hf hc.symm fw cw hn hC2 rfl hs0 rfl rfl (hc ▸ cell) (fun M' e' => q _ (e10.trans e'))
  · refine step_rem8 (by omega) (by omega) (step_lss (wpIf.dec (fun c2 => step_rem8 (by omega) (by omega) (step_eql (wpIf.dec (fun c3 => ?_) (fun c3 => ?_)))) (fun c2 => ?_)))
    · refine ⟨zeroR.val, rfl, ⟨rfl, rfl, by rw [hl0]; exact Nat.le_refl 4⟩, fun M17 hM17 => ?_⟩
      exact changes_c1 ((zz hM17).ok hM) he0 ha (g.ext (zz hM17)) (gn.ext (zz hM17)) hC hf (hcm.trans (if_pos (.inr ⟨c2, c3⟩))).symm fw (zeroR_within _ _) hn hC2 rfl hsz rfl rfl ((hcm.trans (if_pos (.inr ⟨c2, c3⟩))) ▸ cell) (fun M' e' => q _ ((zz hM17).trans e'))
    · have hc := hcm.trans (if_neg (by omega))
      exact changes_c1 (e10.ok hM) he0 ha (g.ext e10) (gn.ext e10) hC hf hc.symm fw cw hn hC2 rfl hs0 rfl rfl (hc ▸ cell) (fun M' e' => q _ (e10.trans e'))
    · have hc := hcm.trans (if_neg (by omega))
      exact changes_c1 (e10.ok hM) he0 ha (g.ext e10) (gn.ext e10) hC hf hc.symm fw cw hn hC2 rfl hs0 rfl rfl (hc ▸ cell) (fun M' e' => q _ (e10.trans e'))
section
variable {M : Mem} {Q : Value → Mem → Prop}
set_option maxHeartbeats 1000000 in
theorem lchanges_W (hM : M.base ≤ M.size) {a : An} (ha : a.ok) {x0 x1 : Value} {G : Gd} {C : Nat} (g : Gr M x0 G) (gn : Gr M x1 (doesG a G)) (hC : Flush G C) (h0 : G ≠ []) (hn : G.length ≤ 2 ^ 30) (hC2 : C ≤ 2 ^ 30) (q : ∀ M', Ext M M' → Q (.bool true) M') :
    W funs known (.func (.func n_law12_changes) #[] #[]) [x0, x1, a.val] M Q := by
  obtain ⟨a0, c0, rfl⟩ := g.shape
  obtain ⟨a1, c1, rfl⟩ := gn.shape
  refine law12_changes_wp hM ⟨rfl, fun b1 M2 hb1 hM2 => ?_⟩
  have e2 : Ext M M2 := Ext.push' hM2
  obtain ⟨L0, hL0⟩ : ∃ L, G[0]? = some L := ⟨_, List.getElem?_eq_getElem (List.length_pos_iff.2 h0)⟩
  refine step_lenG (g.ext e2) (rdG (g.ext e2) (i := 0) (by omega) hL0 fun _ x sx => step_lenS sx ?_)
  rw [hC L0 (List.mem_of_getElem? hL0)]
  refine rect1_W (e2.ok hM) fun M8 e8 => ⟨e8.keep _, ?_⟩
  have e08 := e2.trans e8
  refine clip_W (e08.ok hM) ha.rect ⟨by omega, by omega⟩ ⟨by omega, by omega⟩ fun M10 e10 => ⟨e10.keep _, rfl, fun b11 M12 hb11 hM12 => ⟨⟨rfl, rfl, by exact Nat.le_refl 4⟩, fun M13 hM13 => ?_⟩⟩
  have fw := clip_within (a := a.rect) (R := (G.length : Int)) (C := (C : Int)) (by omega) (by omega)
  have cell := fun (i k : Nat) (L : List Ce) (c : Ce) hL hc => does_cell hC h0 ha (i := i) (k := k) (L := L) (c := c) hL hc
  have hcm : comesA G C a = _ := rfl
  unfold comesA at hcm
  obtain ⟨f, hf⟩ : ∃ f, f = clipF a.rect G.length C := ⟨_, rfl⟩
  rw [← hf] at fw hcm ⊢
  have hs0 := splice_rc (L := [(.int .i64 0), (.int .i64 0), (.int .i64 0), (.int .i64 0)]) rfl f
  have v1 := fw.t; have v2 := fw.l; have v3 := fw.r; have v4 := fw.c; have v5 := fw.b; have v6 := fw.e
  have e010 := e08.trans e10
  have z10 := e010.size
  have e12 : Ext M M12 := e010.trans (Ext.push' hM12)
  have z12 : M12.size = M10.size + 1 := by rw [hM12]; rfl
  have e13 : Ext M M13 := by rw [hM13, ← hf]; exact e12.set (by omega) (by omega) _
  have z13 : M13.size = M12.size := by rw [hM13]; rfl
  refine LGet.mk (v := .int .i64 f.t) (by rw [hs0]; rfl) (LGet.mk (v := .int .i64 f.l) (by rw [hs0]; rfl) ⟨.agg #[.int .i64 f.t, .int .i64 f.l], rfl, rfl, fun b18 M19 hb18 hM19 => ⟨⟨rfl, rfl, by exact Nat.le_refl 2⟩, fun M20 hM20 => ?_⟩⟩)
  have e19 : Ext M M19 := e13.trans (Ext.push' hM19)
  have z19 : M19.size = M13.size + 1 := by rw [hM19]; rfl
  have e20 : Ext M M20 := hM20 ▸ e19.set (by omega) (by omega) _
  have z20 : M20.size = M19.size := by rw [hM20]; rfl
  have hw := ha.what
  refine step_rem8 (by omega) (by omega) (step_gtr (wpIf.dec (fun c1 => ?_) (fun c1 => ?_)))
  · refine to_W (e20.ok hM) fun M25 e25 => ⟨e25.keep _, ⟨rfl, rfl, by exact Nat.le_refl 2⟩, fun M26 hM26 => ?_⟩
    have e025 := e20.trans e25
    have z25 := e25.size
    have e26 : Ext M M26 := hM26 ▸ e025.set (by omega) (by omega) _
    refine changes_c0 (u := smallF a.row) (v := smallF a.col) (e26.ok hM) rfl ha (g.ext e26) (gn.ext e26) hC hf fw hn hC2 hs0 rfl (small_ok ha.row) (small_ok ha.col) ?_ rfl rfl cell (fun M' e' => q _ (e26.trans e'))
    unfold comesA
    rw [← hf, if_pos c1]
  · refine changes_c0 (u := f.t) (v := f.l) (e20.ok hM) rfl ha (g.ext e20) (gn.ext e20) hC hf fw hn hC2 hs0 rfl ⟨by omega, by omega⟩ ⟨by omega, by omega⟩ ?_ rfl rfl cell (fun M' e' => q _ (e20.trans e'))
    unfold comesA
    rw [← hf, if_neg c1]
    by_cases h : a.what % 8 < 2 ∧ a.runes % 8 = 7
    · rw [if_pos (.inr h), if_pos (.inr h)]
    · rw [if_neg (by omega), if_neg (by omega)]
end
end Go.Proofs.Ytklnbkacnghdnaa.Run
namespace Go.Proofs.Ytklnbkacnghdnaa.Run
open Go Go.RowKit
set_option linter.unusedVariables false
set_option linter.unusedSimpArgs false
section
variable {M : Mem} {Q : Value → Mem → Prop}
abbrev lwI (P : Mem) (x0 x1 : Value) (n : Nat) : Nat → LS → Prop := fun k s => ∃ (i : Nat) (M' : Mem), s = law12_whole_l1_s x0 x1 (.int .i64 i) [] M' ∧ Ext P M' ∧ i ≤ n ∧ k = n - i
theorem lwhole_W (hM : M.base ≤ M.size) {x0 x1 : Value} {A B : Gd} {C : Nat} (g : Gr M x0 A) (g' : Gr M x1 B) (hl : A.length = B.length) (fA : Flush A C) (fB : Flush B C) (hC2 : C ≤ 2 ^ 30) (hn : A.length ≤ 2 ^ 30) (w : WhG A) (q : ∀ M', Ext M M' → Q (.bool true) M') :
    W funs known (.func (.func n_law12_whole) #[] #[]) [x0, x1] M Q := by
  obtain ⟨a0, c0, rfl⟩ := g.shape
  obtain ⟨a1, c1, rfl⟩ := g'.shape
  refine law12_whole_wp hM (step_lenG g (step_lenG g' (s_neF (by omega) (wpIf.ff ?_))))
  refine ⟨law12_whole_l1_m, lwI M (.slice a0 A.length c0) (.slice a1 B.length c1) A.length, ⟨A.length, 0, M, rfl, Ext.refl _, Nat.zero_le _, rfl⟩, ?_⟩
  rintro k s ⟨i, M', rfl, e, hi, rfl⟩
  refine law12_whole_l1_wp (I := lwI M (.slice a0 A.length c0) (.slice a1 B.length c1) A.length) (step_lenG g (step_lss (wpIf.dec (fun h => ?_) (fun h => ?_))))
  · obtain ⟨L, hL⟩ : ∃ L, A[i]? = some L := ⟨_, List.getElem?_eq_getElem (by omega)⟩
    obtain ⟨K, hK⟩ : ∃ K, B[i]? = some K := ⟨_, List.getElem?_eq_getElem (by omega)⟩
    have lL := fA L (List.mem_of_getElem? hL)
    have lK := fB K (List.mem_of_getElem? hK)
    refine rdG (g.ext e) (by omega) (by rw [Int.toNat_natCast]; exact hL) fun _ x sx => ?_
    refine whole_W (e.ok hM) sx (by omega) fun M6 e6 => ?_
    rw [whole_iff.2 (w L (List.mem_of_getElem? hL))]
    have e06 := e.trans e6
    refine ⟨_, rfl, wpIf.ff (rdG (g.ext e06) (by omega) (by rw [Int.toNat_natCast]; exact hL) fun _ y sy => step_lenS sy (rdG (g'.ext e06) (by omega) (by rw [Int.toNat_natCast]; exact hK) fun _ z sz => step_lenS sz (s_neF (by omega) (wpIf.ff (step_add (by omega) (by omega) ⟨A.length - (i + 1), by omega, i + 1, M6, rfl, e06, by omega, rfl⟩)))))⟩
  · exact blockK.hit (law12_whole_c0_wp (q _ e))
abbrev rwI (P : Mem) (b1 : Nat) (c : Int) (dv : Value) (T : List An) (lv : Value) (C : Nat) : Nat → LS → Prop := fun k s => ∃ (i : Nat) (M' : Mem) (r : Value) (A : Gd), s = law12_RectWhole_l1_s lv r (.int .i64 i) b1 (.int .u8 c) dv [] M' ∧ Ext P M' ∧ GrN P M' r A ∧ Flush A C ∧ WhG A ∧ A.length ≤ 8 ∧ i ≤ T.length ∧ k = T.length - i
theorem rwhole_W (hM : M.base ≤ M.size) {c : Int} (hc : 0 ≤ c ∧ c ≤ 255) {dv lv : Value} {X : Lns} {T : List An} (h : Sl M dv X.row) (hok : LnsOK M X) (hT : Sl M lv T) (okT : ∀ a ∈ T, a.ok) (q : ∀ M', Q (.bool true) M') :
    W funs known (.func (.func n_law12_RectWhole) #[] #[]) [.agg #[.int .u8 c, dv], lv] M Q := by
  have hd : SlH M dv X.row := .inl h
  obtain ⟨a0, c0, rfl⟩ := h.shape
  obtain ⟨a2, c2', rfl⟩ := hT.shape
  clear h
  generalize hdv : Value.slice a0 X.row.length c0 = dv at *
  subst hdv
  refine law12_RectWhole_wp hM ⟨rfl, fun b1 P hb1 hP => works12_W ⟨KeepB.refl _ _, _, rfl, wpIf.ff ?_⟩⟩
  have eP : Ext M P := Ext.push' hP
  have kP := eP.ok hM
  refine grid_W kP hc (hd.ext eP) (hok.ext eP) fun M7 r e7 n7 => ⟨e7.keep _, ?_⟩
  obtain ⟨C, hCd⟩ : ∃ C : Nat, C = (c % 31).toNat := ⟨_, rfl⟩
  have hC2 : C ≤ 2 ^ 30 := by omega
  refine ⟨law12_RectWhole_l1_m, rwI P b1 c (.slice a0 X.row.length c0) T (.slice a2 T.length c2') C, ⟨T.length, 0, M7, r, gridF c X, rfl, e7, n7, hCd ▸ grid_flush c X, gridF_wh c X, gridF_len c X, Nat.zero_le _, rfl⟩, ?_⟩
  clear n7 e7
  rintro k s ⟨i, M', r, A, rfl, eM, nA0, fA, wA, hlen, hi, rfl⟩
  have nA : GrN P M' r A := nA0
  clear nA0
  refine law12_RectWhole_l1_wp (I := rwI P b1 c (.slice a0 X.row.length c0) T (.slice a2 T.length c2') C) ?_
  have kM := eM.ok kP
  refine step_lenS hT (step_lss (wpIf.dec (fun h1 => step_lss (wpIf.dec (fun h2 => ?_) (fun h2 => ?_))) (fun h1 => ?_)))
  · obtain ⟨a, ha⟩ : ∃ a, T[i]? = some a := ⟨_, List.getElem?_eq_getElem (by omega)⟩
    have oka := okT a (List.mem_of_getElem? ha)
    have ra : T[(i : Int).toNat]? = some a := by rw [Int.toNat_natCast]; exact ha
    have e0 := eP.trans eM
    refine rd (hT.ext e0) (by omega) ra fun _ => does_W kM oka nA.gr fA hC2 (by omega) fun M7 r' e7 n7 => ⟨e7.keep _, ?_⟩
    have t7 := e0.trans e7
    have fA' := does_flush fA a
    have wA' := does_wh fA wA a
    have lA := doesG_len a A
    refine lwhole_W (t7.ok hM) n7.gr (nA.gr.ext e7) lA fA' fA hC2 (by omega) wA' fun M9 e9 => ⟨e9.keep _, _, rfl, wpIf.ff ?_⟩
    have t9 := t7.trans e9
    have next : ∀ N, Ext M9 N → ∃ j, j < T.length - i ∧ rwI P b1 c (.slice a0 X.row.length c0) T (.slice a2 T.length c2') C j (law12_RectWhole_l1_s (.slice a2 T.length c2') r' (.int .i64 ((i : Int) + 1)) b1 (.int .u8 c) (.slice a0 X.row.length c0) [] N) := fun N eN =>
      ⟨T.length - (i + 1), by omega, i + 1, N, r', doesG a A, rfl, ((eM.trans e7).trans e9).trans eN, ((n7.old eM).ext e9).ext eN, fA', wA', by omega, by omega, rfl⟩
    refine step_lenG nA.gr (step_gtr (wpIf.dec (fun h0 => ?_) (fun h0 => step_add (by omega) (by omega) (next _ (Ext.refl _)))))
    refine rd (hT.ext t9) (by omega) ra fun _ => lchanges_W (t9.ok hM) oka ((nA.gr.ext e7).ext e9) (n7.gr.ext e9) fA (fun h => by rw [h] at h0; simp at h0) (by omega) hC2 fun M16 e16 => ⟨e16.keep _, _, rfl, wpIf.ff (step_add (by omega) (by omega) (next _ e16))⟩
  · exact blockK.hit (law12_RectWhole_c0_wp (q _))
  · exact blockK.hit (law12_RectWhole_c0_wp (q _))
end
end Go.Proofs.Ytklnbkacnghdnaa.Run
