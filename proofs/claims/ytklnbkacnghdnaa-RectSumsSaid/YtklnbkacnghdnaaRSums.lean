/- The law RectSums of chapter 12, as a run of this session's own interpreter. -/
import Derived.Test.YtklnbkacnghdnaaLevel
namespace Go.Proofs.Ytklnbkacnghdnaa.Run
open Go Go.RowKit
set_option linter.unusedVariables false
set_option linter.unusedSimpArgs false
set_option maxRecDepth 100000
def partsF (r : Rc) (u l : Int) : List Rc := [⟨r.t, r.l, u, l⟩, ⟨r.t, r.l + l, u, r.c - l⟩, ⟨r.t + u, r.l, r.r - u, l⟩, ⟨r.t + u, r.l + l, r.r - u, r.c - l⟩]
section
variable {r : Rc} {u l : Int} {R C : Nat}
theorem parts_within (h : r.within R C) (hu : 0 ≤ u ∧ u ≤ r.r) (hl : 0 ≤ l ∧ l ≤ r.c) : ∀ p ∈ partsF r u l, p.within R C := by
  have h1 := h.t; have h2 := h.l; have h3 := h.r; have h4 := h.c; have h5 := h.b; have h6 := h.e
  intro p hp
  simp only [partsF, List.mem_cons, List.not_mem_nil, or_false] at hp
  rcases hp with rfl | rfl | rfl | rfl <;> exact ⟨by simp only; omega, by simp only; omega, by simp only; omega, by simp only; omega, by simp only; omega, by simp only; omega⟩
theorem within_ok {p : Rc} (h : p.within R C) (hR : R ≤ 2 ^ 40) (hC : C ≤ 2 ^ 40) : p.ok := by
  have h1 := h.t; have h2 := h.l; have h3 := h.r; have h4 := h.c; have h5 := h.b; have h6 := h.e
  exact ⟨⟨by omega, by omega⟩, ⟨by omega, by omega⟩, ⟨by omega, by omega⟩, ⟨by omega, by omega⟩⟩
theorem parts_over (f : Pl → Int) (hu : 0 ≤ u ∧ u ≤ r.r) (hl : 0 ≤ l ∧ l ≤ r.c) : over f ((partsF r u l).flatMap placesG) = over f (placesG r) := by
  rw [over_parts f hu hl]
  unfold partsF
  simp only [List.flatMap_cons, List.flatMap_nil, over_append]
  simp [over]
  omega
theorem parts_mem (h : r.within R C) (hu : 0 ≤ u ∧ u ≤ r.r) (hl : 0 ≤ l ∧ l ≤ r.c) (p : Pl) : p ∈ (partsF r u l).flatMap placesG ↔ p ∈ placesG r := by
  have h3 := h.r; have h4 := h.c
  unfold partsF
  simp only [List.flatMap_cons, List.flatMap_nil, List.mem_append, List.not_mem_nil, or_false]
  rw [mem_places (m := ⟨r.t, r.l, u, l⟩) (by simp only; omega) (by simp only; omega), mem_places (m := ⟨r.t, r.l + l, u, r.c - l⟩) (by simp only; omega) (by simp only; omega), mem_places (m := ⟨r.t + u, r.l, r.r - u, l⟩) (by simp only; omega) (by simp only; omega), mem_places (m := ⟨r.t + u, r.l + l, r.r - u, r.c - l⟩) (by simp only; omega) (by simp only; omega), mem_places h3 h4]
  simp only
  omega
theorem parts_lev {G : Gd} (hC : Flush G C) (hne : G ≠ []) (h : r.within G.length C) (hu : 0 ≤ u ∧ u ≤ r.r) (hl : 0 ≤ l ∧ l ≤ r.c) : levG G (partsF r u l) = raisedF (labG G) (placesG r) := by
  have e : placesT G (partsF r u l) = (partsF r u l).flatMap placesG := by
    unfold placesT
    have hw := parts_within h hu hl
    generalize partsF r u l = T at hw
    induction T with
    | nil => rfl
    | cons p T ih =>
      rw [List.flatMap_cons, List.flatMap_cons, places_clip hC hne (hw p (.head _)), ih fun q hq => hw q (.tail _ hq)]
  unfold levG raisedF
  rw [e]
  by_cases hx : ∃ p ∈ placesG r, labG G p > 0
  · obtain ⟨p, hp, hx'⟩ := hx
    rw [if_pos ⟨p, (parts_mem h hu hl p).2 hp, hx'⟩, if_pos ⟨p, hp, hx'⟩]
  · rw [if_neg (fun ⟨p, hp, hx'⟩ => hx ⟨p, (parts_mem h hu hl p).1 hp, hx'⟩), if_neg hx]
end
def smF (G : Gd) (T : List Rc) (i : Nat) : Int := (- over (numP G) ((T.take i).flatMap placesG)) % 65536
theorem sm_succ {G : Gd} {C : Nat} (hC : Flush G C) (hne : G ≠ []) {T : List Rc} {i : Nat} {p : Rc} (h : T[i]? = some p) (hw : p.within G.length C) : IntKind.u16.wrap (smF G T i + (sumG G p).1) = smF G T (i + 1) := by
  obtain ⟨h1, h2⟩ := List.getElem?_eq_some_iff.1 h
  rw [w16, (sumG_places hC p).1, places_clip hC hne hw]
  unfold smF
  rw [List.take_succ_eq_append_getElem h1, h2, List.flatMap_append, over_append]
  simp only [List.flatMap_cons, List.flatMap_nil, List.append_nil]
  omega
theorem splice_whole {L E : List Value} (h : L.length = E.length) : splice L 0 E = E := by
  unfold splice
  rw [List.take_zero, List.nil_append]
  have : L.drop (0 + E.length) = [] := List.drop_eq_nil_of_le (by omega)
  rw [this, List.append_nil]
abbrev rsI (P : Mem) (G : Gd) (T : List Rc) (g x11 x12 : Value) (B0 : Nat) (e0_0 e0_1 : Value) (B1 : Nat) (e1_0 e1_1 e1_2 e1_3 e1_4 e1_5 e1_6 e1_7 e1_8 e1_9 e1_10 e1_11 e1_12 : Value) (B2 : Nat) (e2_0 e2_1 : Value) (B3 : Nat) (C3 : List Value) (B4 : Nat) (C4 : List Value) : Nat → LS → Prop := fun k s => ∃ (i : Nat) (M' : Mem), s = law12_RectSums_l3_s g x11 x12 (.int .u16 (smF G T i)) (.int .i64 i) B0 e0_0 e0_1 B1 e1_0 e1_1 e1_2 e1_3 e1_4 e1_5 e1_6 e1_7 e1_8 e1_9 e1_10 e1_11 e1_12 B2 e2_0 e2_1 B3 C3 B4 C4 [] M' ∧ Ext P M' ∧ i ≤ 4 ∧ k = 4 - i
set_option maxHeartbeats 2000000 in
theorem sums_c1 {x7 x11 x12 : Value} {y0 y1 y2 y3 y4 y6 y8 y9 y13 y14 y15 y16 y17 y18 y19 y20 y21 y22 y23 y24 y25 y26 y27 y28 y29 y30 y31 y32 y33 y34 y35 y36 y37 y38 y39 y40 y41 y42 y43 y44 y45 y46 y47 y48 y49 y50 y51 y52 y53 y54 y55 y56 y57 y58 y59 y60 y61 y62 y63 y64 y65 y66 y67 y68 y69 y70 y71 y72 y73 y74 y75 y76 y77 y78 y79 y80 y81 y82 y83 y84 y85 y86 y87 y88 y89 y90 y91 y92 y93 y94 y95 y96 y97 y98 y99 y100 y101 y102 y103 y104 y105 y106 y107 y108 y109 y110 y111 y112 y113 y114 y115 y116 y117 y118 y119 y120 y121 y122 y123 y124 y125 y126 y127 y128 y129 y130 y131 y132 y133 y134 y135 y136 y137 y138 y139 y140 y141 y142 y143 y144 y145 y146 y147 y148 y149 y150 y151 y152 y153 y154 y155 y156 y157 y158 y159 y160 y161 y162 y163 y164 y165 y166 y167 y168 y169 y170 y171 y172 y173 y174 y175 y176 y177 y178 y179 y180 y181 y182 y183 y184 y185 y186 y187 y188 y189 y190 y191 y192 y193 : LV} {B0 : Nat} {e0_0 e0_1 : Value} {B1 : Nat} {e1_0 e1_1 e1_2 e1_3 e1_4 e1_5 e1_6 e1_7 e1_8 e1_9 e1_10 e1_11 e1_12 : Value} {B2 : Nat} {e2_0 e2_1 : Value} {B3 : Nat} {C3 : List Value}   {M : Mem} {Q : Value → Mem → Prop}  {G : Gd} {C : Nat} {r : Rc} {u v : Int} (hM : M.base ≤ M.size) (g : Gr M x7 G) (hC : Flush G C) (hC2 : C ≤ 2 ^ 30) (hn : G.length ≤ 2 ^ 20) (hw : G ≠ [] → r.within G.length C) (hz : r.r = 0 → r = zeroR) (hr0 : 0 ≤ r.r) (hrG : r.r ≠ 0 → G ≠ []) (h3 : C3 = Enc.enc r) (h20 : e2_0 = .int .u8 u) (h21 : e2_1 = .int .u8 v) (hu : 0 ≤ u ∧ u ≤ 255) (hv : 0 ≤ v ∧ v ≤ 255)
    (h11 : x11 = .int .u16 ((- over (numP G) (placesG r)) % 65536)) (h12 : x12 = .int .u8 (raisedF (labG G) (placesG r))) (q : ∀ M', Q (.bool true) M') : wpC funs known none law12_RectSums_c1 ⟨(y0 :: y1 :: y2 :: y3 :: y4 :: (.loc 2 0) :: y6 :: (.v x7) :: y8 :: y9 :: (.loc 3 0) :: (.v x11) :: (.v x12) :: y13 :: y14 :: y15 :: y16 :: y17 :: y18 :: y19 :: y20 :: y21 :: y22 :: y23 :: y24 :: y25 :: y26 :: y27 :: y28 :: y29 :: y30 :: y31 :: y32 :: y33 :: y34 :: y35 :: y36 :: y37 :: y38 :: y39 :: y40 :: y41 :: y42 :: y43 :: y44 :: y45 :: y46 :: y47 :: y48 :: y49 :: y50 :: y51 :: y52 :: y53 :: y54 :: y55 :: y56 :: y57 :: y58 :: y59 :: y60 :: y61 :: y62 :: y63 :: y64 :: y65 :: y66 :: y67 :: y68 :: y69 :: y70 :: y71 :: y72 :: y73 :: y74 :: y75 :: y76 :: y77 :: y78 :: y79 :: y80 :: y81 :: y82 :: y83 :: y84 :: y85 :: y86 :: y87 :: y88 :: y89 :: y90 :: y91 :: y92 :: y93 :: y94 :: y95 :: y96 :: y97 :: y98 :: y99 :: y100 :: y101 :: y102 :: y103 :: y104 :: y105 :: y106 :: y107 :: y108 :: y109 :: y110 :: y111 :: y112 :: y113 :: y114 :: y115 :: y116 :: y117 :: y118 :: y119 :: y120 :: y121 :: y122 :: y123 :: y124 :: y125 :: y126 :: y127 :: y128 :: y129 :: y130 :: y131 :: y132 :: y133 :: y134 :: y135 :: y136 :: y137 :: y138 :: y139 :: y140 :: y141 :: y142 :: y143 :: y144 :: y145 :: y146 :: y147 :: y148 :: y149 :: y150 :: y151 :: y152 :: y153 :: y154 :: y155 :: y156 :: y157 :: y158 :: y159 :: y160 :: y161 :: y162 :: y163 :: y164 :: y165 :: y166 :: y167 :: y168 :: y169 :: y170 :: y171 :: y172 :: y173 :: y174 :: y175 :: y176 :: y177 :: y178 :: y179 :: y180 :: y181 :: y182 :: y183 :: y184 :: y185 :: y186 :: y187 :: y188 :: y189 :: y190 :: y191 :: y192 :: y193 :: []), [⟨B0, [e0_0, e0_1], 24⟩, ⟨B1, [e1_0, e1_1, e1_2, e1_3, e1_4, e1_5, e1_6, e1_7, e1_8, e1_9, e1_10, e1_11, e1_12], 32⟩, ⟨B2, [e2_0, e2_1], 60⟩, ⟨B3, C3, 26⟩], [], M⟩ (retK mf5 Q) := by
  subst h3 h20 h21 h11 h12
  refine law12_RectSums_c1_wp (LGet.mk (v := .int .i64 r.r) rfl ?_)
  by_cases h0 : r.r = 0
  · refine s_eqT h0 (wpIf.tt ?_)
    have := hz h0
    subst this
    refine s_eqT rfl (wpIf.tt (s_eqT rfl (wpIf.tt (LGetN.as zeroR.val (by exact Nat.le_refl 4) rfl ⟨zeroR.val, rfl, step_eqlRc ?_⟩))))
    rw [decide_eq_true rfl]
    exact q _
  · refine s_eqF h0 (wpIf.ff ⟨⟨by decide, by decide⟩, ?_⟩)
    have hne := hrG h0
    have Wr := hw hne
    have w1 := Wr.t; have w2 := Wr.l; have w3 := Wr.r; have w4 := Wr.c; have w5 := Wr.b; have w6 := Wr.e
    have t1 := tmod_bound u (r.r + 1) (by omega)
    have t2 := tmod_bound v (r.c + 1) (by omega)
    have t3 : 0 ≤ u.tmod (r.r + 1) := Int.tmod_nonneg _ hu.1
    have t4 : 0 ≤ v.tmod (r.c + 1) := Int.tmod_nonneg _ hv.1
    refine step_conv (i64_ok (by omega) (by omega)) (LGet.mk (v := .int .i64 r.r) rfl (step_add (by omega) (by omega) (step_remT (by omega) ⟨⟨by decide, by decide⟩, step_conv (i64_ok (by omega) (by omega)) (LGet.mk (v := .int .i64 r.c) rfl (step_add (by omega) (by omega) (step_remT (by omega) ?_)))⟩)))
    generalize u.tmod (r.r + 1) = up at t1 t3 ⊢
    generalize v.tmod (r.c + 1) = lf at t2 t4 ⊢
    have hup : 0 ≤ up ∧ up ≤ r.r := ⟨t3, by omega⟩
    have hlf : 0 ≤ lf ∧ lf ≤ r.c := ⟨t4, by omega⟩
    refine LGet.mk (v := .int .i64 r.t) rfl (LGet.mk (v := .int .i64 r.l) rfl ⟨(Rc.mk r.t r.l up lf).val, rfl, ?_⟩)
    refine LGet.mk (v := .int .i64 r.t) rfl (LGet.mk (v := .int .i64 r.l) rfl (step_add (by omega) (by omega) (LGet.mk (v := .int .i64 r.c) rfl (step_sub (by omega) (by omega) ⟨(Rc.mk r.t (r.l + lf) up (r.c - lf)).val, rfl, ?_⟩))))
    refine LGet.mk (v := .int .i64 r.t) rfl (step_add (by omega) (by omega) (LGet.mk (v := .int .i64 r.l) rfl (LGet.mk (v := .int .i64 r.r) rfl (step_sub (by omega) (by omega) ⟨(Rc.mk (r.t + up) r.l (r.r - up) lf).val, rfl, ?_⟩))))
    refine LGet.mk (v := .int .i64 r.t) rfl (step_add (by omega) (by omega) (LGet.mk (v := .int .i64 r.l) rfl (step_add (by omega) (by omega) (LGet.mk (v := .int .i64 r.r) rfl (step_sub (by omega) (by omega) (LGet.mk (v := .int .i64 r.c) rfl (step_sub (by omega) (by omega) ⟨(Rc.mk (r.t + up) (r.l + lf) (r.r - up) (r.c - lf)).val, rfl, ?_⟩)))))))
    obtain ⟨T, hT⟩ : ∃ T, T = partsF r up lf := ⟨_, rfl⟩
    refine ⟨.agg (flat (partsF r up lf)).toArray, rfl, rfl, fun b41 M42 hb41 hM42 => ⟨⟨rfl, rfl, by exact Nat.le_refl 16⟩, fun M43 hM43 => ?_⟩⟩
    have hC4 : splice [(.int .i64 0), (.int .i64 0), (.int .i64 0), (.int .i64 0), (.int .i64 0), (.int .i64 0), (.int .i64 0), (.int .i64 0), (.int .i64 0), (.int .i64 0), (.int .i64 0), (.int .i64 0), (.int .i64 0), (.int .i64 0), (.int .i64 0), (.int .i64 0)] 0 (Value.cells (.agg (flat (partsF r up lf)).toArray)).toList = flat (partsF r up lf) := splice_whole rfl
    have e42 : Ext M M42 := Ext.push' hM42
    have z42 : M42.size = M.size + 1 := by rw [hM42]; rfl
    have e43 : Ext M M43 := hM43 ▸ e42.set (by omega) (by omega) _
    rw [hC4]
    have hpw := parts_within Wr hup hlf
    have hsum4 : smF G (partsF r up lf) 4 = (- over (numP G) (placesG r)) % 65536 := by
      unfold smF
      rw [show (partsF r up lf).take 4 = partsF r up lf from rfl, parts_over _ hup hlf]
    refine ⟨law12_RectSums_l3_m, rsI M43 G (partsF r up lf) x7 (.int .u16 ((- over (numP G) (placesG r)) % 65536)) (.int .u8 (raisedF (labG G) (placesG r))) B0 e0_0 e0_1 B1 e1_0 e1_1 e1_2 e1_3 e1_4 e1_5 e1_6 e1_7 e1_8 e1_9 e1_10 e1_11 e1_12 B2 (.int .u8 u) (.int .u8 v) B3 (Enc.enc r) b41 (flat (partsF r up lf)), ⟨4, 0, M43, rfl, Ext.refl _, by omega, rfl⟩, ?_⟩
    rintro k s ⟨i, M', rfl, eM, hi, rfl⟩
    refine law12_RectSums_l3_wp (I := rsI M43 G (partsF r up lf) x7 (.int .u16 ((- over (numP G) (placesG r)) % 65536)) (.int .u8 (raisedF (labG G) (placesG r))) B0 e0_0 e0_1 B1 e1_0 e1_1 e1_2 e1_3 e1_4 e1_5 e1_6 e1_7 e1_8 e1_9 e1_10 e1_11 e1_12 B2 (.int .u8 u) (.int .u8 v) B3 (Enc.enc r) b41 (flat (partsF r up lf))) (step_lss (wpIf.dec (fun h => ?_) (fun h => ?_)))
    · have e0 := e43.trans eM
      have kM := e0.ok hM
      have go : ∀ p, (partsF r up lf)[i]? = some p → W funs known (.func (.func n_rect_Sum) #[] #[]) [x7, p.val] M' (fun r4 M5 => KeepB [B0, B1, B2, B3, b41] M' M5 ∧ ∃ v6, opSem (.extract (.const r4) 0) [] M5 = some (v6, M5) ∧ ∃ v7, opSem (.extract (.const r4) 1) [] M5 = some (v7, M5) ∧ ∃ v8, binV .add 0 [] (.int .u16 (smF G (partsF r up lf) i)) v6 = some v8 ∧ ∃ v9, binV .add 0 [] (.int .i64 i) (.int .i64 1) = some v9 ∧
          ∃ j, j < 4 - i ∧ rsI M43 G (partsF r up lf) x7 (.int .u16 ((- over (numP G) (placesG r)) % 65536)) (.int .u8 (raisedF (labG G) (placesG r))) B0 e0_0 e0_1 B1 e1_0 e1_1 e1_2 e1_3 e1_4 e1_5 e1_6 e1_7 e1_8 e1_9 e1_10 e1_11 e1_12 B2 (.int .u8 u) (.int .u8 v) B3 (Enc.enc r) b41 (flat (partsF r up lf)) j (law12_RectSums_l3_s x7 (.int .u16 ((- over (numP G) (placesG r)) % 65536)) (.int .u8 (raisedF (labG G) (placesG r))) v8 v9 B0 e0_0 e0_1 B1 e1_0 e1_1 e1_2 e1_3 e1_4 e1_5 e1_6 e1_7 e1_8 e1_9 e1_10 e1_11 e1_12 B2 (.int .u8 u) (.int .u8 v) B3 (Enc.enc r) b41 (flat (partsF r up lf)) [] M5)) := by
        intro p hp
        have hpp := hpw p (List.mem_of_getElem? hp)
        refine rsum_W kM (g.ext e0) hC hC2 hn (within_ok hpp (by omega) (by omega)) fun M5 e5 => ⟨e5.keep _, .int .u16 (sumG G p).1, rfl, .int .u8 (sumG G p).2, rfl, step_addW (step_add (by omega) (by omega) ⟨4 - (i + 1), by omega, i + 1, M5, ?_, eM.trans e5, by omega, rfl⟩)⟩
        rw [sm_succ hC hne hp hpp]; rfl
      refine LIdx.mk ⟨by omega, by omega⟩ ?_
      have hi4 : i = 0 ∨ i = 1 ∨ i = 2 ∨ i = 3 := by omega
      rcases hi4 with rfl | rfl | rfl | rfl
      · exact LGetN.as (Rc.mk r.t r.l up lf).val (by exact Nat.le_of_ble_eq_true rfl) rfl (go _ rfl)
      · exact LGetN.as (Rc.mk r.t (r.l + lf) up (r.c - lf)).val (by exact Nat.le_of_ble_eq_true rfl) rfl (go _ rfl)
      · exact LGetN.as (Rc.mk (r.t + up) r.l (r.r - up) lf).val (by exact Nat.le_of_ble_eq_true rfl) rfl (go _ rfl)
      · exact LGetN.as (Rc.mk (r.t + up) (r.l + lf) (r.r - up) (r.c - lf)).val (by exact Nat.le_of_ble_eq_true rfl) rfl (go _ rfl)
    · have hi4 : i = 4 := by omega
      subst hi4
      have e0 := e43.trans eM
      have kM := e0.ok hM
      refine blockK.hit (law12_RectSums_c2_wp (s_eqT hsum4 (wpIf.tt ⟨⟨by decide, by decide⟩, ?_⟩)))
      refine LGetN.as (Rc.mk r.t r.l up lf).val (by exact Nat.le_of_ble_eq_true rfl) rfl ⟨⟨by decide, by decide⟩, LGetN.as (Rc.mk r.t (r.l + lf) up (r.c - lf)).val (by exact Nat.le_of_ble_eq_true rfl) rfl ⟨⟨by decide, by decide⟩, LGetN.as (Rc.mk (r.t + up) r.l (r.r - up) lf).val (by exact Nat.le_of_ble_eq_true rfl) rfl ⟨⟨by decide, by decide⟩, LGetN.as (Rc.mk (r.t + up) (r.l + lf) (r.r - up) (r.c - lf)).val (by exact Nat.le_of_ble_eq_true rfl) rfl ?_⟩⟩⟩
      refine step_lit (partsF r up lf) rfl rfl fun v6 M7 e7 n7 => ⟨e7.keep _, ?_⟩
      refine rlevel_W (e7.ok kM) ((g.ext e0).ext e7) hC hC2 hn (fun p hp => within_ok (hpw p hp) (by omega) (by omega)) (by show 4 ≤ _; decide) n7 fun M9 e9 => ⟨e9.keep _, ?_⟩
      exact s_eqT (parts_lev hC hne Wr hup hlf) (q _)
theorem clip00 (a : Rc) : clipF a 0 0 = zeroR := by
  unfold clipF
  rw [if_pos]
  · rfl
  · left
    unfold rspanF
    repeat' split
    all_goals simp only
    all_goals omega
theorem none_sum {G : Gd} {C : Nat} (hC : Flush G C) : sumG G ⟨3, 3, -1, 9⟩ = (0, 0) := by
  have : clippedF G ⟨3, 3, -1, 9⟩ = zeroR := by
    unfold clippedF
    split
    · rfl
    · unfold clipF
      rw [if_pos]
      · rfl
      · left
        unfold rspanF
        rw [if_pos (.inl (by decide))]; exact Int.le_refl _
  unfold sumG
  rw [this]; rfl
set_option maxHeartbeats 2000000 in
theorem sums_c0 {x7 x8 x9 : Value} {y0 y1 y2 y3 y6 y10 y11 y12 y13 y14 y15 y16 y17 y18 y19 y20 y21 y22 y23 y24 y25 y26 y27 y28 y29 y30 y31 y32 y33 y34 y35 y36 y37 y38 y39 y40 y41 y42 y43 y44 y45 y46 y47 y48 y49 y50 y51 y52 y53 y54 y55 y56 y57 y58 y59 y60 y61 y62 y63 y64 y65 y66 y67 y68 y69 y70 y71 y72 y73 y74 y75 y76 y77 y78 y79 y80 y81 y82 y83 y84 y85 y86 y87 y88 y89 y90 y91 y92 y93 y94 y95 y96 y97 y98 y99 y100 y101 y102 y103 y104 y105 y106 y107 y108 y109 y110 y111 y112 y113 y114 y115 y116 y117 y118 y119 y120 y121 y122 y123 y124 y125 y126 y127 y128 y129 y130 y131 y132 y133 y134 y135 y136 y137 y138 y139 y140 y141 y142 y143 y144 y145 y146 y147 y148 y149 y150 y151 y152 y153 y154 y155 y156 y157 y158 y159 y160 y161 y162 y163 y164 y165 y166 y167 y168 y169 y170 y171 y172 y173 y174 y175 y176 y177 y178 y179 y180 y181 y182 y183 y184 y185 y186 y187 y188 y189 y190 y191 y192 y193 : LV} {B0 : Nat} {e0_0 e0_1 : Value} {B1 : Nat} {e1_0 e1_1 e1_2 e1_3 e1_4 e1_5 e1_6 e1_7 e1_8 e1_9 e1_10 e1_11 e1_12 : Value} {B2 : Nat} {e2_0 e2_1 : Value}   {M : Mem} {Q : Value → Mem → Prop}  {a : An} {G : Gd} {C C' : Nat} {u v : Int} (hM : M.base ≤ M.size) (he : [e1_0, e1_1, e1_2, e1_3, e1_4, e1_5, e1_6, e1_7, e1_8, e1_9, e1_10, e1_11, e1_12] = Enc.enc a) (ha : a.ok) (g : Gr M x7 G) (hC : Flush G C) (hC2 : C ≤ 2 ^ 30) (hn : G.length ≤ 2 ^ 20) (hcc : G ≠ [] → C' = C) (hc0 : G = [] → C' = 0) (h8 : x8 = .int .i64 G.length) (h9 : x9 = .int .i64 C') (h20 : e2_0 = .int .u8 u) (h21 : e2_1 = .int .u8 v) (hu : 0 ≤ u ∧ u ≤ 255) (hv : 0 ≤ v ∧ v ≤ 255)
    (q : ∀ M', Q (.bool true) M') : wpC funs known none law12_RectSums_c0 ⟨(y0 :: y1 :: y2 :: y3 :: (.loc 1 0) :: (.loc 2 0) :: y6 :: (.v x7) :: (.v x8) :: (.v x9) :: y10 :: y11 :: y12 :: y13 :: y14 :: y15 :: y16 :: y17 :: y18 :: y19 :: y20 :: y21 :: y22 :: y23 :: y24 :: y25 :: y26 :: y27 :: y28 :: y29 :: y30 :: y31 :: y32 :: y33 :: y34 :: y35 :: y36 :: y37 :: y38 :: y39 :: y40 :: y41 :: y42 :: y43 :: y44 :: y45 :: y46 :: y47 :: y48 :: y49 :: y50 :: y51 :: y52 :: y53 :: y54 :: y55 :: y56 :: y57 :: y58 :: y59 :: y60 :: y61 :: y62 :: y63 :: y64 :: y65 :: y66 :: y67 :: y68 :: y69 :: y70 :: y71 :: y72 :: y73 :: y74 :: y75 :: y76 :: y77 :: y78 :: y79 :: y80 :: y81 :: y82 :: y83 :: y84 :: y85 :: y86 :: y87 :: y88 :: y89 :: y90 :: y91 :: y92 :: y93 :: y94 :: y95 :: y96 :: y97 :: y98 :: y99 :: y100 :: y101 :: y102 :: y103 :: y104 :: y105 :: y106 :: y107 :: y108 :: y109 :: y110 :: y111 :: y112 :: y113 :: y114 :: y115 :: y116 :: y117 :: y118 :: y119 :: y120 :: y121 :: y122 :: y123 :: y124 :: y125 :: y126 :: y127 :: y128 :: y129 :: y130 :: y131 :: y132 :: y133 :: y134 :: y135 :: y136 :: y137 :: y138 :: y139 :: y140 :: y141 :: y142 :: y143 :: y144 :: y145 :: y146 :: y147 :: y148 :: y149 :: y150 :: y151 :: y152 :: y153 :: y154 :: y155 :: y156 :: y157 :: y158 :: y159 :: y160 :: y161 :: y162 :: y163 :: y164 :: y165 :: y166 :: y167 :: y168 :: y169 :: y170 :: y171 :: y172 :: y173 :: y174 :: y175 :: y176 :: y177 :: y178 :: y179 :: y180 :: y181 :: y182 :: y183 :: y184 :: y185 :: y186 :: y187 :: y188 :: y189 :: y190 :: y191 :: y192 :: y193 :: []), [⟨B0, [e0_0, e0_1], 24⟩, ⟨B1, [e1_0, e1_1, e1_2, e1_3, e1_4, e1_5, e1_6, e1_7, e1_8, e1_9, e1_10, e1_11, e1_12], 32⟩, ⟨B2, [e2_0, e2_1], 60⟩], [], M⟩ (retK mf5 Q) := by
  subst h8 h9
  obtain ⟨rfl, rfl, rfl, rfl, rfl, rfl, rfl, rfl, rfl, rfl, rfl, rfl, rfl⟩ : e1_0 = Value.int .u8 a.what ∧ e1_1 = Value.int .i64 a.t ∧ e1_2 = Value.int .i64 a.l ∧ e1_3 = Value.int .i64 a.r ∧ e1_4 = Value.int .i64 a.c ∧ e1_5 = Value.int .i64 a.row ∧ e1_6 = Value.int .i64 a.col ∧ e1_7 = Value.int .u8 a.d.rune ∧ e1_8 = Value.int .u8 a.d.marks ∧ e1_9 = Value.int .u8 a.d.attr ∧ e1_10 = Value.bool a.d.wide ∧ e1_11 = Value.bool a.d.high ∧ e1_12 = Value.int .u8 a.runes := by
    change _ = [Value.int .u8 a.what, .int .i64 a.t, .int .i64 a.l, .int .i64 a.r, .int .i64 a.c, .int .i64 a.row, .int .i64 a.col, .int .u8 a.d.rune, .int .u8 a.d.marks, .int .u8 a.d.attr, .bool a.d.wide, .bool a.d.high, .int .u8 a.runes] at he
    simpa only [List.cons.injEq, and_true] using he
  clear he
  have hC' : C' ≤ 2 ^ 30 := by
    by_cases h : G = []
    · rw [hc0 h]; omega
    · rw [hcc h]; exact hC2
  have hcl : ∀ p, clippedF G p = clipF p G.length C' := fun p => by
    cases G with
    | nil => rw [hc0 rfl]; exact (clip00 p).symm
    | cons L G => unfold clippedF; simp only; rw [hC L List.mem_cons_self, hcc (by simp)]
  refine law12_RectSums_c0_wp ?_
  refine rect1_W hM fun M2 e2 => ⟨e2.keep _, clip_W (e2.ok hM) ha.rect ⟨by omega, by omega⟩ ⟨by omega, by omega⟩ fun M4 e4 => ⟨e4.keep _, rfl, fun b5 M6 hb5 hM6 => ⟨⟨rfl, rfl, by exact Nat.le_refl 4⟩, fun M7 hM7 => ?_⟩⟩⟩
  have fw := clip_within (a := a.rect) (R := (G.length : Int)) (C := (C' : Int)) (by omega) (by omega)
  have fz := clip_zero (a := a.rect) (R := (G.length : Int)) (C := (C' : Int)) (by omega) (by omega)
  have fl := clip_le (a := a.rect) (R := (G.length : Int)) (C := (C' : Int)) (by omega) (by omega)
  have hrr := hcl a.rect
  obtain ⟨r, hr⟩ : ∃ r, r = clipF a.rect G.length C' := ⟨_, rfl⟩
  rw [← hr] at fw fz fl hrr hM7 ⊢
  have hself : clipF r G.length C' = r := clip_own fw fl.2.2 fz
  have hrc : clippedF G r = r := (hcl r).trans hself
  have rok : r.ok := within_ok fw (by omega) (by omega)
  have hsum : sumG G a.rect = sumG G r := by unfold sumG; rw [hrr, hrc]
  have hs0 : splice [(.int .i64 0), (.int .i64 0), (.int .i64 0), (.int .i64 0)] 0 (Value.cells r.val).toList = Enc.enc r := splice_whole rfl
  have e04 := e2.trans e4
  have z4 := e04.size
  have e6 : Ext M M6 := e04.trans (Ext.push' hM6)
  have z6 : M6.size = M4.size + 1 := by rw [hM6]; rfl
  have e7 : Ext M M7 := hM7 ▸ e6.set (by omega) (by omega) _
  rw [hs0]
  refine rect1_W (e7.ok hM) fun M9 e9 => ⟨e9.keep _, ?_⟩
  have e09 := e7.trans e9
  refine rsum_W (e09.ok hM) (g.ext e09) hC hC2 hn ha.rect fun M11 e11 => ⟨e11.keep _, .int .u16 (sumG G a.rect).1, rfl, .int .u8 (sumG G a.rect).2, rfl, LGetN.as r.val (by exact Nat.le_refl 4) rfl ?_⟩
  have e011 := e09.trans e11
  refine rsum_W (e011.ok hM) (g.ext e011) hC hC2 hn rok fun M16 e16 => ⟨e16.keep _, .int .u16 (sumG G r).1, rfl, .int .u8 (sumG G r).2, rfl, (Rc.mk 3 3 (-1) 9).val, rfl, ?_⟩
  have e016 := e011.trans e16
  refine rsum_W (e016.ok hM) (g.ext e016) hC hC2 hn (a := ⟨3, 3, -1, 9⟩) ⟨⟨by decide, by decide⟩, ⟨by decide, by decide⟩, ⟨by decide, by decide⟩, ⟨by decide, by decide⟩⟩ fun M21 e21 => ⟨e21.keep _, .int .u16 (sumG G ⟨3, 3, -1, 9⟩).1, rfl, .int .u8 (sumG G ⟨3, 3, -1, 9⟩).2, rfl, ?_⟩
  have e021 := e016.trans e21
  rw [hsum, none_sum hC]
  refine s_neF (fun h => h rfl) (wpIf.ff (s_neF (fun h => h rfl) (wpIf.ff (s_neF (fun h => h rfl) (wpIf.ff (s_neF (fun h => h rfl) (wpIf.ff ?_)))))))
  refine LGetN.as r.val (by exact Nat.le_refl 4) rfl (clip_W (freeze_ok _) rok ⟨by omega, by omega⟩ ⟨by omega, by omega⟩ fun M30 e30 => ⟨e30.keepF _, LGetN.as r.val (by exact Nat.le_refl 4) rfl (step_neqRc ?_)⟩)
  rw [hself]
  have t30 := e021.trans (Ext.thaw e30)
  refine wpIf.dec (fun h => absurd rfl h) (fun _ => ?_)
  obtain ⟨s1, s2⟩ := sumG_places hC r
  rw [hrc] at s1 s2
  rw [s1, s2]
  exact sums_c1 (t30.ok hM) (g.ext t30) hC hC2 hn (fun h => by rw [← hcc h]; exact fw) fz fw.r (fun h0 hG => h0 (by
    have h5 := fw.b
    have h6 := fw.r
    have h7 := fw.t
    have h8 : G.length = 0 := by rw [hG]; rfl
    omega)) rfl h20 h21 hu hv rfl rfl q
section
variable {M : Mem} {Q : Value → Mem → Prop}
theorem rsums_W (hM : M.base ≤ M.size) {c : Int} (hc : 0 ≤ c ∧ c ≤ 255) {dv : Value} {T : Lns} (h : Sl M dv T.row) (hok : LnsOK M T) {a : An} (ha : a.ok) {u v : Int} (hu : 0 ≤ u ∧ u ≤ 255) (hv : 0 ≤ v ∧ v ≤ 255) (q : ∀ M', Q (.bool true) M') :
    W funs known (.func (.func n_law12_RectSums) #[] #[]) [.agg #[.int .u8 c, dv], a.val, .agg #[.int .u8 u, .int .u8 v]] M Q := by
  obtain ⟨va, vc, rfl⟩ := h.shape
  refine law12_RectSums_wp hM ⟨rfl, fun b1 P1 hb1 hP1 => ⟨rfl, fun b3 P3 hb3 hP3 => ⟨rfl, fun b5 P hb5 hP => works12_W ⟨KeepB.refl _ _, _, rfl, wpIf.ff ?_⟩⟩⟩⟩
  have eP : Ext M P := ((Ext.push' hP1).trans (Ext.push' hP3)).trans (Ext.push' hP)
  have kP := eP.ok hM
  refine grid_W kP hc (.inl (h.ext eP)) (hok.ext eP) fun M9 g e9 n9 => ⟨e9.keep _, step_lenG n9.gr ?_⟩
  have k9 := e9.ok kP
  have hC := grid_flush c T
  have hC31 : (c % 31).toNat ≤ 30 := by omega
  have hG8 := gridF_len c T
  have sg := n9.gr
  clear n9
  generalize gridF c T = G at sg hC hG8 ⊢
  generalize (c % 31).toNat = C at hC hC31
  have hn : G.length ≤ 2 ^ 20 := by omega
  have hC2 : C ≤ 2 ^ 30 := by omega
  refine step_gtr (wpIf.dec (fun h0 => ?_) (fun h0 => ?_))
  · have hne : G ≠ [] := fun h => by rw [h] at h0; simp at h0
    obtain ⟨L0, hL0⟩ : ∃ L, G[0]? = some L := ⟨_, List.getElem?_eq_getElem (by omega)⟩
    refine rdG sg (i := 0) (by omega) hL0 fun _ x0 sl0 => step_lenS sl0 ?_
    rw [hC L0 (List.mem_of_getElem? hL0)]
    exact sums_c0 k9 rfl ha sg hC hC2 hn (fun _ => rfl) (fun h => absurd h hne) rfl rfl rfl rfl hu hv q
  · have hG0 : G = [] := List.length_eq_zero_iff.1 (by omega)
    exact sums_c0 (C := C) (C' := 0) k9 rfl ha sg hC hC2 hn (fun h => absurd hG0 h) (fun _ => rfl) rfl rfl rfl rfl hu hv q
end
end Go.Proofs.Ytklnbkacnghdnaa.Run
