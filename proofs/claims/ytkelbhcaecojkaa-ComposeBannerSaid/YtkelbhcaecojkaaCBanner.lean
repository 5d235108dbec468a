/- The law ComposeBanner of chapter 30, as a run of this session's own interpreter. -/
import Derived.Test.YtkelbhcaecojkaaTiles
import Derived.Test.YtkelbhcaecojkaaText
import Derived.Test.YtkelbhcaecojkaaVcK
namespace Go.Proofs.Ytkelbhcaecojkaa.Run
open Go Go.RowKit
set_option linter.unusedVariables false
set_option linter.unusedSimpArgs false

theorem tiles_at {T : Tls} {D : Dfs} (h : T.map (fun a => (a.1.r, a.2)) = tilesF D) {i : Nat} {a : Tl × Gd} (ha : T[i]? = some a) : ∃ p, D[i]? = some p ∧ a.1.r = p.1.rect ∧ a.2 = gridF p.1.g p.2 := by
  have h2 : (T.map (fun a => (a.1.r, a.2)))[i]? = some (a.1.r, a.2) := by rw [List.getElem?_map, ha]; rfl
  rw [h] at h2
  unfold tilesF at h2
  rw [List.getElem?_map, List.getElem?_take] at h2
  split at h2
  · obtain ⟨p, hp, hpa⟩ := Option.map_eq_some_iff.1 h2
    have hpa := Prod.mk.inj hpa
    exact ⟨p, hp, hpa.1.symm, hpa.2.symm⟩
  · cases h2
theorem tiles_wh {R C : Nat} : ∀ {T : Tls} {G : Gd}, Scr G R C → WhG G → LbG G → (∀ a ∈ T, WhG a.2 ∧ LbG a.2) → WhG (T.foldl (fun G a => tileF R C a G) G) ∧ Scr (T.foldl (fun G a => tileF R C a G) G) R C
  | [], G, s, w, l, _ => ⟨w, s⟩
  | a :: T, G, s, w, l, h => by
    obtain ⟨wa, la⟩ := h a List.mem_cons_self
    obtain ⟨g1, g2⟩ := tile_ok s w l wa la
    exact tiles_wh (T := T) (G := tileF R C a G) (s.tileTo a R) g1 g2 fun x hx => h x (List.mem_cons_of_mem _ hx)
theorem tiles_row0 {R C : Nat} : ∀ (T : Tls) (G : Gd), (T.foldl (fun G a => tileF R C a G) G)[0]? = G[0]?
  | [], G => rfl
  | a :: T, G => by
    rw [List.foldl_cons, tiles_row0 T]
    unfold tileF
    rw [tileTo_get]
    cases G[0]? with
    | none => rfl
    | some L => rw [Option.map_some, if_neg (by omega)]
theorem joins_low : ∀ (L : List Ce), (∀ c ∈ L, c.label = 0) → joinsF 0 L = 0
  | [], _ => rfl
  | c :: L, h => by
    have hc := h c List.mem_cons_self
    show joinsF (joinF 0 c.label) L = 0
    rw [hc]
    exact joins_low L fun x hx => h x (List.mem_cons_of_mem _ hx)
theorem step_neS {P : Value → Prop} {s : ByteArray} (p : P (.bool false)) : ∃ v, binV .neq 0 [] (.string s) (.string s) = some v ∧ P v := by
  refine ⟨.bool false, ?_, p⟩
  simp [binV, strOp, negIf]

section
variable {M : Mem} {Q : Value → Mem → Prop}
theorem works30_W {M : Mem} (h : Q (.bool true) M) : W funs known (.func (.func n_law30_works) #[] #[]) [] M Q := W_known rfl h
abbrev cnI (P : Mem) (b1 : Nat) (R C : Nat) (y0 y1 bc : Int) (bv g h : Value) : Nat → LS → Prop := fun k s => ∃ (i : Nat) (M' : Mem), s = law30_ComposeBanner_l2_s (.int .i64 R) (.int .i64 C) g h (.int .i64 i) b1 (.int .u8 y0) (.int .u8 y1) (.int .u8 bc) bv [] M' ∧ Ext P M' ∧ 1 ≤ i ∧ i ≤ R ∧ k = R - i

theorem cbanner_W (hM : M.base ≤ M.size) {y0 y1 bc : Int} (h0 : 0 ≤ y0 ∧ y0 ≤ 255) (h1 : 0 ≤ y1 ∧ y1 ≤ 255) (hbc : 0 ≤ bc ∧ bc ≤ 255) {lv bv : Value} {D : List Df} {B : List Dr} (hD : Sl M lv D) (okD : ∀ a ∈ D, dfK M a) (hB : Sl M bv B) (okB : ∀ d ∈ B, d.ok) (q : ∀ M', Q (.bool true) M') :
    W funs known (.func (.func n_law30_ComposeBanner) #[] #[]) [lv, .agg #[.int .u8 y0, .int .u8 y1, .int .u8 bc, bv]] M Q := by
  obtain ⟨D, rfl, kD⟩ := dfs_of okD
  clear okD
  have hDl : D.row.length = D.length := by simp
  obtain ⟨a0, c0, e0⟩ := hD.shape
  obtain ⟨a2, c2, e2⟩ := hB.shape
  subst e0 e2
  refine law30_ComposeBanner_wp hM ⟨rfl, fun b1 P hb1 hP => works30_W ⟨KeepB.refl _ _, _, rfl, wpIf.ff ?_⟩⟩
  have eP : Ext M P := Ext.push' hP
  have sP : P.size = M.size + 1 := by rw [hP]; rfl
  have kP := eP.ok hM
  generalize hlv : Value.slice a0 D.row.length c0 = lv at *
  generalize hbv : Value.slice a2 B.length c2 = bv at *
  refine step_rem8 (by omega) (by omega) (step_conv (IntWalk.i64_in _ (by omega)) (step_add (by omega) (by omega) ?_))
  refine step_rem8 (by omega) (by omega) (step_conv (IntWalk.i64_in _ (by omega)) (step_add (by omega) (by omega) ?_))
  obtain ⟨R, hR⟩ : ∃ R : Nat, (2 : Int) + y0 % 13 = R := ⟨(2 + y0 % 13).toNat, by omega⟩
  obtain ⟨C, hC⟩ : ∃ C : Nat, (1 : Int) + y1 % 16 = C := ⟨(1 + y1 % 16).toNat, by omega⟩
  rw [hR, hC]
  have ok1 := row_ok bc B []
  have l1 := rowF_len bc B []
  refine row_W kP hbc (.inl (hB.ext eP)) okB fun M13 r12 e13 n13 => ⟨e13.keep _, ?_⟩
  have k13 := e13.ok kP
  have eP13 := eP.trans e13
  refine tiles_W k13 (hD.ext eP13) (kD.ext eP13) fun M15 av T e15 nT hTF => ⟨e15.keep _, ?_⟩
  have hTl : T.length ≤ 6 := by
    have := congrArg List.length hTF
    simp only [tilesF, List.length_map, List.length_take] at this
    omega
  have hTok : ∀ a ∈ T, TlOK a ∧ WhG a.2 ∧ LbG a.2 := fun a ha => by
    obtain ⟨i, hi⟩ := List.mem_iff_getElem?.1 ha
    obtain ⟨p, hp, hr, hg⟩ := tiles_at hTF hi
    have okp := (kD p (List.mem_of_getElem? hp)).1
    have := tl_ok okp (v := a.1.v) (G := a.2) (by rw [hg]; have := gridF_len p.1.g p.2; omega) (by rw [hg]; exact gridF_row)
    rw [← hr] at this
    exact ⟨this, by rw [hg]; exact (grid_ok _ _).1, by rw [hg]; exact (grid_ok _ _).2⟩
  have k15 := e15.ok k13
  refine screen30_W k15 (by omega) (by omega) (n13.ext e15).sl (by omega) nT.1.sl (by omega) (fun a ha => (nT.2 a ha).gr) (fun a ha => (hTok a ha).1) fun M17 g e17 g17 => ⟨e17.keep _, g, rfl, .int .i64 0, rfl, ?_⟩
  have e1517 := e15.trans e17
  have k17 := e1517.ok k13
  refine row_W k17 hbc (.inl (hB.ext (eP13.trans e1517))) okB fun M21 r20 e21 n21 => ⟨e21.keep _, ?_⟩
  have k21 := e21.ok k17
  refine screen30_W (T := []) k21 (by omega) (by omega) n21.sl (by omega) (Sl.nil _) (by simp) (by simp) (by simp) fun M23 h e23 g23 => ⟨e23.keep _, h, rfl, .int .i64 0, rfl, ?_⟩
  have gS := (g17.ext (e21.trans e23)).gr
  have gH := g23.gr
  have k23 := e23.ok k21
  have hH : screenF R C (rowF bc B []) [] = screen0 R C (rowF bc B []) := rfl
  rw [hH] at gH
  have s0 := scr0 R C (by omega) (rowF bc B [])
  obtain ⟨w0, lb0⟩ := screen0_ok R C ok1.1 ok1.2
  obtain ⟨wS', sS'⟩ := tiles_wh (T := T) s0 w0 lb0 fun a ha => (hTok a ha).2
  have hrow0 : (screenF R C (rowF bc B []) T)[0]? = (screen0 R C (rowF bc B []))[0]? := tiles_row0 T _
  have hrow0' : (screen0 R C (rowF bc B []))[0]? = some (resizeF (rowF bc B []) C zeroC) := rfl
  have hrowi : ∀ i : Nat, 1 ≤ i → i < R → (screen0 R C (rowF bc B []))[i]? = some (List.replicate C zeroC) := fun i hi1 hi2 => by
    obtain ⟨j, rfl⟩ : ∃ j, i = j + 1 := ⟨i - 1, by omega⟩
    show (List.replicate (R - 1) (List.replicate C zeroC))[j]? = _
    rw [List.getElem?_replicate, if_pos (by omega)]
  have wS : WhG (screenF R C (rowF bc B []) T) := wS'
  have sS : Scr (screenF R C (rowF bc B []) T) R C := sS'
  clear g17 g23 w0 lb0 wS' sS'
  generalize screenF R C (rowF bc B []) T = S at *
  have hS0 : S[0]? = some (resizeF (rowF bc B []) C zeroC) := hrow0.trans hrow0'
  have hlS := sS.len
  have hl0 := s0.len
  refine step_lenG gS (s_neF (fun hh => hh (by omega)) (wpIf.ff (step_lenG gH (s_neF (fun hh => hh (by omega)) (wpIf.ff ?_)))))
  generalize screen0 R C (rowF bc B []) = S0 at *
  refine law30_ComposeBanner_c0_wp ?_
  refine ⟨law30_ComposeBanner_l2_m, cnI M23 b1 R C y0 y1 bc bv g h, ⟨R - 1, 1, M23, rfl, Ext.refl _, by omega, by omega, rfl⟩, ?_⟩
  rintro k s ⟨i, M', rfl, eM, hi1, hi, rfl⟩
  have kM := eM.ok k23
  refine law30_ComposeBanner_l2_wp (I := cnI M23 b1 R C y0 y1 bc bv g h) (step_lss (wpIf.dec (fun g1 => ?_) (fun g1 => ?_)))
  rotate_left
  · refine blockK.hit (law30_ComposeBanner_c1_wp ?_)
    refine rdG (gS.ext eM) (i := 0) (by omega) hS0 fun _ x sx => rdG (gH.ext eM) (i := 0) (by omega) hrow0' fun _ y sy => ?_
    refine same_W kM sx sy (by rw [resizeF_len]; omega) ⟨KeepB.refl _ _, ?_⟩
    rw [decide_eq_true rfl]; exact q _
  obtain ⟨L, hL⟩ : ∃ L, S[i]? = some L := ⟨_, List.getElem?_eq_getElem (by omega)⟩
  have hLl := sS.row L (List.mem_of_getElem? hL)
  have hLw : wholeF L = true := whole_iff.2 (wS L (List.mem_of_getElem? hL))
  have hZ := hrowi i hi1 (by omega)
  refine rdG (gS.ext eM) (by omega) (by rw [Int.toNat_natCast]; exact hL) fun _ x sx => ?_
  refine whole_W kM sx (by omega) fun M5 e5 => ⟨e5.keep _, .bool false, by rw [hLw]; rfl, wpIf.ff ?_⟩
  have e05 := eM.trans e5
  refine rdG (gH.ext e05) (by omega) (by rw [Int.toNat_natCast]; exact hZ) fun _ y sy => ?_
  have hlev : levelF (List.replicate C zeroC) 0 C = 0 := joins_low _ fun c hc => by
    have := List.mem_of_mem_take (List.mem_of_mem_drop hc)
    rw [(List.mem_replicate.1 this).2]; rfl
  refine level_W (e05.ok k23) sy (by simp; omega) fun M10 e10 => ⟨e10.keep _, ?_⟩
  rw [hlev]
  have e010 := e05.trans e10
  refine s_neF (by simp) (wpIf.ff (rdG (gH.ext e010) (by omega) (by rw [Int.toNat_natCast]; exact hZ) fun _ z sz => ?_))
  have pl : ∀ c ∈ List.replicate C zeroC, c.plain := fun c hc => by
    rw [(List.mem_replicate.1 hc).2]
    exact ⟨.inl ⟨by decide, by decide⟩, .inl ⟨by decide, by decide⟩, .inl ⟨by decide, by decide⟩⟩
  refine text_W (e010.ok k23) sz (by simp; omega) pl fun M15 e15 => ⟨e15.keep _, zeroC.val, rfl, ?_⟩
  have e015 := e010.trans e15
  refine new_W (e015.ok k23) (by omega) fun M18 r17 e18 n18 => ⟨e18.keep _, ?_⟩
  rw [Int.toNat_natCast] at n18
  refine text_W ((e015.trans e18).ok k23) n18.sl (by simp; omega) pl fun M20 e20 => ⟨e20.keep _, step_neS (wpIf.ff (step_add (by omega) (by omega) ⟨R - (i + 1), by omega, i + 1, M20, rfl, (e015.trans e18).trans e20, by omega, by omega, rfl⟩))⟩
end
end Go.Proofs.Ytkelbhcaecojkaa.Run
