/- The law ComposeShows of chapter 30, as a run of this session's own interpreter. -/
import Derived.Test.YtkelbhcaecojkaaTiles
import Derived.Test.YtkelbhcaecojkaaPn
import Derived.Test.YtkelbhcaecojkaaVcU
namespace Go.Proofs.Ytkelbhcaecojkaa.Run
open Go Go.RowKit
set_option linter.unusedVariables false
set_option linter.unusedSimpArgs false
theorem tiles_at {T : Tls} {D : Dfs} (h : T.map (fun a => (a.1.r, a.2)) = tilesF D) {i : Nat} {a : Tl × Gd} (ha : T[i]? = some a) : ∃ p, D[i]? = some p ∧ a.1.r = p.1.rect ∧ a.2 = gridF p.1.g p.2 := by
  have h2 : (T.map (fun a => (a.1.r, a.2)))[i]? = some (a.1.r, a.2) := by rw [List.getElem?_map, ha]; rfl
  rw [h] at h2
  unfold tilesF at h2
  rw [List.getElem?_map, List.getElem?_take] at h2
  split at h2
  · obtain ⟨p, hp, hpa⟩ := Option.map_eq_some_iff.1 h2
    have hpa := Prod.mk.inj hpa
    exact ⟨p, hp, hpa.1.symm, hpa.2.symm⟩
  · cases h2
theorem tiles_wh {R C : Nat} : ∀ {T : Tls} {G : Gd}, Scr G R C → WhG G → LbG G → (∀ a ∈ T, WhG a.2 ∧ LbG a.2) → WhG (T.foldl (fun G a => tileF R C a G) G)
  | [], G, s, w, l, _ => w
  | a :: T, G, s, w, l, h => by
    obtain ⟨wa, la⟩ := h a List.mem_cons_self
    obtain ⟨g1, g2⟩ := tile_ok s w l wa la
    exact tiles_wh (T := T) (G := tileF R C a G) (s.tileTo a R) g1 g2 fun x hx => h x (List.mem_cons_of_mem _ hx)
section
variable {α : Type} [E : Enc α]
theorem append_x {ty : TypeId} {bytes : Nat} {M : Mem} {b q : Nat} {x : Value} {A B : List α} (hg : M.get b = some (.cells (flat A) ty true)) (hB : Srcs M x B) (hn : A.length + B.length ≤ 2 ^ 40) (hby : (A.length + B.length) * bytes ≤ 2 ^ 40) :
    ∃ v M', opSem (.append ty bytes E.k false (.const (.slice (some ⟨b, 0, some q⟩) A.length A.length)) (.const x)) [] M = some (v, M') ∧ Ext M M' ∧ ((B = [] ∧ v = .slice (some ⟨b, 0, some q⟩) A.length A.length ∧ M' = M) ∨ (v = .slice (some ⟨M.size, 0, none⟩) (A ++ B).length (A ++ B).length ∧ M'.get M.size = some (.cells (flat (A ++ B)) ty true))) := by
  obtain ⟨l1, l2, l3⟩ := hB
  have hop : opSem (.append ty bytes E.k false (.const (.slice (some ⟨b, 0, some q⟩) A.length A.length)) (.const x)) [] M = appendV M ty bytes E.k (.slice (some ⟨b, 0, some q⟩) A.length A.length) x := by simp only [opSem, ev, l2, if_true]
  rw [hop]
  by_cases h0 : B.length = 0
  · have hB0 : B = [] := List.length_eq_zero_iff.1 h0
    refine ⟨_, M, ?_, Ext.refl M, .inl ⟨hB0, rfl, rfl⟩⟩
    unfold appendV
    simp only [l1, h0, if_true]
  · have hne : B ≠ [] := fun h => h0 (by rw [h]; rfl)
    have hsrc := l3 hne
    refine ⟨.slice (some ⟨M.size, 0, none⟩) (A ++ B).length (A ++ B).length, M.push (.cells (flat A ++ flat B) ty true), ?_, Ext.push _ _, .inr ⟨rfl, by rw [Mem.get_push, if_pos rfl]; simp⟩⟩
    have hl : M.loadN b 0 (A.length * E.k) = some (flat A) := by
      simp only [Mem.loadN, hg, flat_len, Nat.zero_add, Nat.le_refl, if_true, List.drop_zero]
      rw [List.take_of_length_le (by rw [flat_len]; exact Nat.le_refl _)]
    unfold appendV
    simp only [l1, h0, if_false, hsrc, hn, hby, and_self, if_true]
    rw [if_neg (by omega), hl, List.length_append]; rfl
end
theorem copy_x {M : Mem} {x : Value} {A : List Rc} {b : Nat} {M₀ : Mem} (hb : M₀.size ≤ b) (e : M₀.size ≤ M.size) (hg : M.get b = some (.cells [] 61 true)) (hA : Srcs M x A) (hn : A.length ≤ 2 ^ 30) :
    ∃ v M', opSem (.append 61 32 4 false (.const (.slice (some ⟨b, 0, some 0⟩) 0 0)) (.const x)) [] M = some (v, M') ∧ Ext M M' ∧ New 61 M₀ M' v A := by
  obtain ⟨v, M', h1, h2, h3⟩ := append_x (ty := 61) (bytes := 32) (q := 0) (A := ([] : List Rc)) (M := M) (b := b) hg hA (by rw [List.length_nil]; omega) (by rw [List.length_nil]; omega)
  have hbs := Mem.lt_of_get hg
  refine ⟨v, M', h1, h2, ?_⟩
  rcases h3 with ⟨rfl, rfl, rfl⟩ | ⟨rfl, h4⟩
  · exact ⟨b, some 0, rfl, hg, hb⟩
  · exact ⟨M.size, none, rfl, h4, e⟩
theorem step_nePs {P : Value → Prop} {a b : Ps} (h : a = b) (p : P (.bool false)) : ∃ v, binV .neq 2 [0, 0] (posV a) (posV b) = some v ∧ P v := by
  subst h
  refine ⟨.bool false, ?_, p⟩
  obtain ⟨a1, a2⟩ := a
  show (if (2 : Nat) = 2 then (eqV true [0, 0] (posV (a1, a2)) (posV (a1, a2))).bind (negIf .neq) else none) = _
  rw [if_pos rfl]
  simp [eqV, eqCells, cellEq, negIf]
abbrev Tls.rcs (T : Tls) : List Rc := T.map fun a => a.1.r
section
variable {M : Mem} {Q : Value → Mem → Prop}
theorem works30_W {M : Mem} (h : Q (.bool true) M) : W funs known (.func (.func n_law30_works) #[] #[]) [] M Q := W_known rfl h
theorem place_W (hM : M.base ≤ M.size) {a : Rc} {p : Ps} (h1 : 0 ≤ p.1 ∧ p.1 < a.r) (h2 : 0 ≤ p.2 ∧ p.2 < a.c) (ht : 0 ≤ a.t ∧ a.t + p.1 ≤ 100000) (hl : 0 ≤ a.l ∧ a.l + p.2 ≤ 100000) (q : ∀ M', Ext M M' → Q (.tuple #[posV (a.t + p.1, a.l + p.2), .bool true]) M') : W funs known (.func (.func n_compose_Place) #[] #[]) [a.val, posV p] M Q := by
  refine compose_Place_wp hM ⟨rfl, fun b1 M2 hb1 hM2 => ⟨rfl, fun b3 M4 hb3 hM4 => ⟨rfl, fun b5 M6 hb5 hM6 => ?_⟩⟩⟩
  have e6 : Ext M M6 := ((Ext.push' hM2).trans (Ext.push' hM4)).trans (Ext.push' hM6)
  have s2 : M2.size = M.size + 1 := by rw [hM2]; rfl
  have s4 : M4.size = M2.size + 1 := by rw [hM4]; rfl
  have s6 : M6.size = M4.size + 1 := by rw [hM6]; rfl
  refine s_ltF (by omega) (wpIf.ff (s_geF (by omega) (wpIf.ff (s_ltF (by omega) (wpIf.ff (s_geF (by omega) (wpIf.ff (step_add (by omega) (by omega) (step_add (by omega) (by omega) ⟨posV (a.t + p.1, a.l + p.2), rfl, ⟨rfl, rfl, by decide⟩, fun M26 hM26 => LGetN.as (posV (a.t + p.1, a.l + p.2)) (by exact Nat.le_refl 2) rfl (q M26 ?_)⟩)))))))))
  exact hM26 ▸ e6.set (by omega) (by omega) _
abbrev aptI (M : Mem) (R C : Nat) (T : Tls) (tv : Value) : Nat → LS → Prop := fun k s => ∃ (i : Nat) (N : Mem) (o h : Value) (U : Tls), s = law30_apart_l1_s (.int .i64 R) (.int .i64 C) tv o h (.int .i64 i) [] N ∧ Ext M N ∧ Mine 63 M N o U.row ∧ Sl N h U.rcs ∧ checkF R C U.rcs = 0 ∧ (∀ a ∈ U, a ∈ T) ∧ U.length ≤ i ∧ i ≤ T.length ∧ k = T.length - i
set_option maxHeartbeats 1000000 in
theorem lapart_W (hM : M.base ≤ M.size) {R C : Nat} (hR : 2 ≤ R ∧ R ≤ 512) (hC : 1 ≤ C ∧ C ≤ 512) {tv : Value} {T : Tls} (hT : Sl M tv T.row) (hTl : T.length ≤ 6) (okT : ∀ a ∈ T, a.1.r.ok) (q : ∀ M' r (U : Tls), Ext M M' → Mine 63 M M' r U.row → checkF R C U.rcs = 0 → (∀ a ∈ U, a ∈ T) → U.length ≤ 6 → Q r M') :
    W funs known (.func (.func n_law30_apart) #[] #[]) [.int .i64 R, .int .i64 C, tv] M Q := by
  have hTr : T.row.length = T.length := by simp
  obtain ⟨ta, tc, htv⟩ := hT.shape
  subst htv
  refine law30_apart_wp hM ?_
  generalize htv : Value.slice ta T.row.length tc = tv at *
  refine ⟨law30_apart_l1_m, aptI M R C T tv, ⟨T.length, 0, M, .slice none 0 0, .slice none 0 0, [], rfl, Ext.refl _, .inr ⟨rfl, rfl⟩, Sl.nil _, check0.2 ⟨decide_eq_true (by omega), by simp, rfl⟩, by simp, Nat.le_refl _, Nat.zero_le _, rfl⟩, ?_⟩
  rintro k s ⟨i, N, o, h, U, rfl, eN, mU0, hU, ck, sub, hUi, hi, rfl⟩
  have mU : Mine 63 M N o U.row := mU0
  clear mU0
  have hUr : U.row.length = U.length := by simp
  have hUc : U.rcs.length = U.length := by simp
  have kN := eN.ok hM
  refine law30_apart_l1_wp (I := aptI M R C T tv) (step_lenS hT ?_)
  rw [hTr]
  refine step_lss (wpIf.dec (fun g1 => ?_) (fun g1 => ?_))
  rotate_left
  · exact blockK.hit (law30_apart_c0_wp (q N o U eN mU ck sub (by omega)))
  obtain ⟨a, ha⟩ : ∃ a, T[i]? = some a := ⟨_, List.getElem?_eq_getElem (by omega)⟩
  have hra : T.row[(i : Int).toNat]? = some a.1 := by rw [Int.toNat_natCast]; show (T.map _)[_]? = _; rw [List.getElem?_map, ha]; rfl
  have oka := okT a (List.mem_of_getElem? ha)
  have e4 : Ext N ((N.freeze.push (.cells [] 61 true)).thaw N.base) := Ext.thaw (Ext.push N.freeze _)
  have g4 : ((N.freeze.push (.cells [] 61 true)).thaw N.base).get N.size = some (.cells [] 61 true) := by
    show (N.freeze.push (.cells [] 61 true)).get N.size = _
    rw [Mem.get_push]; exact if_pos rfl
  refine ⟨.slice (some ⟨N.size, 0, some 0⟩) 0 0, N.freeze.push (.cells [] 61 true), rfl, ?_⟩
  generalize (N.freeze.push (.cells [] 61 true)).thaw N.base = P1 at e4 g4 ⊢
  obtain ⟨v5, M6, h5, e6, n6⟩ := copy_x (M := P1) (M₀ := N) (b := N.size) (Nat.le_refl _) e4.size g4 (hU.ext e4).srcs (by omega)
  refine ⟨v5, M6, opSemQ_app h5, ?_⟩
  have eN6 : Ext N M6 := e4.trans e6
  have k6 := eN6.ok kN
  refine rd_fs (hT.ext (eN.trans eN6)) (by omega) hra (f := 0) (n := 4) (l := Enc.enc a.1.r) rfl (by exact Nat.le_of_ble_eq_true rfl) fun _ _ => ?_
  refine step_lit [a.1.r] rfl rfl fun v10 M11 e11 n11 => ?_
  have eR : Ext M6 (M11.thaw M6.base) := Ext.thaw e11
  have slR : Sl (M11.thaw M6.base) v10 [a.1.r] := n11.sl
  generalize M11.thaw M6.base = P3 at eR slR ⊢
  refine step_app (eN6.trans eR) kN (n6.ext eR) slR.srcs (by rw [hUc]; simp; omega) (by rw [hUc]; simp; omega) fun v12 M13 e13 n13 _ => ?_
  have n13 : New 61 N M13 v12 (U.rcs ++ [a.1.r]) := n13
  have hrcs : Tls.rcs (U ++ [a]) = U.rcs ++ [a.1.r] := by simp [Tls.rcs]
  rw [← hrcs] at n13
  have k13 := e13.ok kN
  refine pcheck_W k13 n13.sl (fun b hb => ?_) (by simp; omega) ⟨by omega, by omega⟩ ⟨by omega, by omega⟩ fun M15 e15 => ?_
  · obtain ⟨x, hx, rfl⟩ := List.mem_map.1 hb
    rcases List.mem_append.1 hx with hx | hx
    · exact okT x (sub x hx)
    · rw [List.mem_singleton] at hx; subst hx; exact oka
  have e015 := e13.trans e15
  have eM15 := eN.trans e015
  refine step_eql (wpIf.dec (fun g2 => ?_) (fun g2 => ?_))
  · refine rd (hT.ext eM15) (by omega) hra fun _ => ?_
    refine step_lit [a.1] rfl rfl fun v19 M20 e20 n20 => ?_
    refine step_appM (eM15.trans e20) hM ((mU.ext e015).ext e20) n20.sl.srcs (by rw [hUr]; simp; omega) (by rw [hUr]; simp; omega) fun v21 M22 e22 m22 k22 => step_add (by omega) (by omega) ⟨T.length - (i + 1), by omega, i + 1, M22, v21, v12, U ++ [a], rfl, e22, ?_, ?_, g2, ?_, by simp; omega, by omega, rfl⟩
    · have : Tls.row (U ++ [a]) = U.row ++ [a.1] := by simp [Tls.row]
      rw [this]; exact m22
    · have nn : New 61 N M20 v12 (Tls.rcs (U ++ [a])) := (n13.ext e15).ext e20
      have := mine_keep' (mU.ext (e015.trans e20)) (.inl (nn.old eN)) (by decide) k22
      exact this.sl
    · intro x hx
      rcases List.mem_append.1 hx with hx | hx
      · exact sub x hx
      · rw [List.mem_singleton] at hx; subst hx; exact List.mem_of_getElem? ha
  · exact step_add (by omega) (by omega) ⟨T.length - (i + 1), by omega, i + 1, M15, o, h, U, rfl, eM15, mU.ext e015, hU.ext e015, ck, sub, by omega, by omega, rfl⟩
abbrev sh1I (P : Mem) (b1 : Nat) (R C : Nat) (y0 y1 bc : Int) (bv av : Value) (U : Tls) : Nat → LS → Prop := fun k s => ∃ (i : Nat) (N : Mem) (rv kv : Value), s = law30_ComposeShows_l1_s (.int .i64 R) (.int .i64 C) av rv kv (.int .i64 i) b1 (.int .u8 y0) (.int .u8 y1) (.int .u8 bc) bv [] N ∧ Ext P N ∧ Mine 61 P N rv (U.rcs.take i) ∧ Mine 63 P N kv ((Tls.row U.reverse).take i) ∧ i ≤ U.length ∧ k = U.length - i
abbrev sh4I (P : Mem) (b1 : Nat) (R C : Nat) (y0 y1 bc : Int) (bv av rv gv : Value) : Nat → LS → Prop := fun k s => ∃ (i : Nat) (N : Mem), s = law30_ComposeShows_l4_s (.int .i64 R) (.int .i64 C) av rv gv (.int .i64 i) b1 (.int .u8 y0) (.int .u8 y1) (.int .u8 bc) bv [] N ∧ Ext P N ∧ 1 ≤ i ∧ i ≤ R ∧ k = R - i
abbrev sh7I (P : Mem) (b1 : Nat) (R C : Nat) (y0 y1 bc : Int) (bv av rv gv : Value) (i : Nat) : Nat → LS → Prop := fun k s => ∃ (c : Nat) (N : Mem), s = law30_ComposeShows_l7_s (.int .i64 R) (.int .i64 C) av rv gv (.int .i64 i) (.int .i64 c) b1 (.int .u8 y0) (.int .u8 y1) (.int .u8 bc) bv [] N ∧ Ext P N ∧ c ≤ C ∧ k = C - c
set_option maxRecDepth 100000 in
set_option maxHeartbeats 4000000 in
theorem cshows_W (hM : M.base ≤ M.size) {y0 y1 bc : Int} (h0 : 0 ≤ y0 ∧ y0 ≤ 255) (h1 : 0 ≤ y1 ∧ y1 ≤ 255) (hbc : 0 ≤ bc ∧ bc ≤ 255) {lv bv : Value} {D : List Df} {B : List Dr} (hD : Sl M lv D) (okD : ∀ a ∈ D, dfK M a) (hB : Sl M bv B) (okB : ∀ d ∈ B, d.ok) (q : ∀ M', Q (.bool true) M') :
    W funs known (.func (.func n_law30_ComposeShows) #[] #[]) [lv, .agg #[.int .u8 y0, .int .u8 y1, .int .u8 bc, bv]] M Q := by
  obtain ⟨D, rfl, kD⟩ := dfs_of okD
  clear okD
  obtain ⟨a0, c0, e0⟩ := hD.shape
  obtain ⟨a2, c2, e2⟩ := hB.shape
  subst e0 e2
  refine law30_ComposeShows_wp hM ⟨rfl, fun b1 P hb1 hP => works30_W ⟨KeepB.refl _ _, _, rfl, wpIf.ff ?_⟩⟩
  have eP : Ext M P := Ext.push' hP
  have sP : P.size = M.size + 1 := by rw [hP]; rfl
  have kP := eP.ok hM
  generalize hlv : Value.slice a0 D.row.length c0 = lv at *
  generalize hbv : Value.slice a2 B.length c2 = bv at *
  refine step_rem8 (by omega) (by omega) (step_conv (IntWalk.i64_in _ (by omega)) (step_add (by omega) (by omega) ?_))
  refine step_rem8 (by omega) (by omega) (step_conv (IntWalk.i64_in _ (by omega)) (step_add (by omega) (by omega) ?_))
  obtain ⟨R, hR⟩ : ∃ R : Nat, (2 : Int) + y0 % 13 = R := ⟨(2 + y0 % 13).toNat, by omega⟩
  obtain ⟨C, hC⟩ : ∃ C : Nat, (1 : Int) + y1 % 16 = C := ⟨(1 + y1 % 16).toNat, by omega⟩
  rw [hR, hC]
  have ok1 := row_ok bc B []
  have l1 := rowF_len bc B []
  refine tiles_W kP (hD.ext eP) (kD.ext eP) fun M13 tv T e13 nT hTF => ⟨e13.keep _, ?_⟩
  have k13 := e13.ok kP
  have eP13 := eP.trans e13
  have hTl : T.length ≤ 6 := by
    have := congrArg List.length hTF
    simp only [tilesF, List.length_map, List.length_take] at this
    omega
  have hTok : ∀ a ∈ T, TlOK a ∧ WhG a.2 ∧ LbG a.2 := fun a ha => by
    obtain ⟨i, hi⟩ := List.mem_iff_getElem?.1 ha
    obtain ⟨p, hp, hr, hg⟩ := tiles_at hTF hi
    have okp := (kD p (List.mem_of_getElem? hp)).1
    have := tl_ok okp (v := a.1.v) (G := a.2) (by rw [hg]; have := gridF_len p.1.g p.2; omega) (by rw [hg]; exact gridF_row)
    rw [← hr] at this
    exact ⟨this, by rw [hg]; exact (grid_ok _ _).1, by rw [hg]; exact (grid_ok _ _).2⟩
  refine lapart_W k13 (by omega) (by omega) nT.1.sl hTl (fun a ha => ?_) fun M15 av U e15 mU ck sub hUl => ⟨e15.keep _, ?_⟩
  · have hk := (hTok a ha).1
    have := hk.t; have := hk.l; have := hk.r; have := hk.c
    exact ⟨⟨by omega, by omega⟩, ⟨by omega, by omega⟩, ⟨by omega, by omega⟩, ⟨by omega, by omega⟩⟩
  have k15 := e15.ok k13
  have hUg : ∀ a ∈ U, Gr M15 a.1.v a.2 := fun a ha => ((nT.2 a (sub a ha)).gr).ext e15
  have hUok : ∀ a ∈ U, TlOK a ∧ WhG a.2 ∧ LbG a.2 := fun a ha => hTok a (sub a ha)
  have sU : Sl M15 av U.row := mU.sl
  have eP15 := eP13.trans e15
  have hUr : U.row.length = U.length := by simp
  have hUc : U.rcs.length = U.length := by simp
  clear mU nT hTF hTok sub hTl
  obtain ⟨ck1, ck2, ck3⟩ := check0.1 ck
  have hin : ∀ a ∈ U, inF R C a.1.r = true := fun a ha => ck2 a.1.r (List.mem_map.2 ⟨a, ha, rfl⟩)
  have hap := apart_map ck3
  refine ⟨law30_ComposeShows_l1_m, sh1I M15 b1 R C y0 y1 bc bv av U, ⟨U.length, 0, M15, .slice none 0 0, .slice none 0 0, rfl, Ext.refl _, .inr ⟨rfl, rfl⟩, .inr ⟨rfl, rfl⟩, Nat.zero_le _, rfl⟩, ?_⟩
  rintro k s ⟨i, N, rv, kv, rfl, eN, mR0, mK0, hi, rfl⟩
  have mR : Mine 61 M15 N rv (U.rcs.take i) := mR0
  have mK : Mine 63 M15 N kv ((Tls.row U.reverse).take i) := mK0
  clear mR0 mK0
  have kN := eN.ok k15
  have b1lt : b1 < M15.size := by have := e13.size; have := e15.size; omega
  refine law30_ComposeShows_l1_wp (I := sh1I M15 b1 R C y0 y1 bc bv av U) (step_lenS sU ?_)
  rw [hUr]
  refine step_lss (wpIf.dec (fun g1 => ?_) (fun g1 => ?_))
  · obtain ⟨a, ha⟩ : ∃ a, U[i]? = some a := ⟨_, List.getElem?_eq_getElem (by omega)⟩
    have hra : U.row[(i : Int).toNat]? = some a.1 := by rw [Int.toNat_natCast]; show (U.map _)[_]? = _; rw [List.getElem?_map, ha]; rfl
    obtain ⟨z, hz⟩ : ∃ z, U.reverse[i]? = some z := ⟨_, List.getElem?_eq_getElem (by simp; omega)⟩
    have hz' : U[U.length - 1 - i]? = some z := by rw [← hz, List.getElem?_reverse (by omega)]
    have hrz : U.row[((U.length : Int) - 1 - (i : Int)).toNat]? = some z.1 := by rw [show ((U.length : Int) - 1 - (i : Int)).toNat = U.length - 1 - i by omega]; show (U.map _)[_]? = _; rw [List.getElem?_map, hz']; rfl
    refine rd_fs (sU.ext eN) (by omega) hra (f := 0) (n := 4) (l := Enc.enc a.1.r) rfl (by exact Nat.le_of_ble_eq_true rfl) fun _ _ => ?_
    refine step_lit [a.1.r] rfl rfl fun v6 M7 e7 n7 => ⟨e7.keep _, ?_⟩
    refine step_appM (eN.trans e7) k15 (mR.ext e7) n7.sl.srcs (by simp; omega) (by simp; omega) fun v8 M9 e9 m9 k9 => ⟨keepE b1lt (eN.trans e7) e9, ?_⟩
    have mK9 := mine_keep' (mR.ext e7) (mK.ext e7) (by decide) k9
    refine step_lenS (sU.ext e9) ?_
    rw [hUr]
    refine step_sub (by omega) (by omega) (step_sub (by omega) (by omega) ?_)
    refine rd (sU.ext e9) (by omega) hrz fun _ => ?_
    refine step_lit [z.1] rfl rfl fun v15 M16 e16 n16 => ⟨e16.keep _, ?_⟩
    refine step_appM (e9.trans e16) k15 (mK9.ext e16) n16.sl.srcs (by simp; omega) (by simp; omega) fun v17 M18 e18 m18 k18 => ⟨keepE b1lt (e9.trans e16) e18, ?_⟩
    have mR18 := mine_keep' (mK9.ext e16) (m9.ext e16) (by decide) k18
    refine step_add (by omega) (by omega) ⟨U.length - (i + 1), by omega, i + 1, M18, v8, v17, rfl, e18, ?_, ?_, by omega, rfl⟩
    · have : U.rcs.take (i + 1) = U.rcs.take i ++ [a.1.r] := by
        have : U.rcs[i]? = some a.1.r := by show (U.map _)[_]? = _; rw [List.getElem?_map, ha]; rfl
        obtain ⟨g1, g2⟩ := List.getElem?_eq_some_iff.1 this
        rw [List.take_succ_eq_append_getElem g1, g2]
      rw [this]; exact mR18
    · have : (Tls.row U.reverse).take (i + 1) = (Tls.row U.reverse).take i ++ [z.1] := by
        have : (Tls.row U.reverse)[i]? = some z.1 := by show (U.reverse.map _)[_]? = _; rw [List.getElem?_map, hz]; rfl
        obtain ⟨g1, g2⟩ := List.getElem?_eq_some_iff.1 this
        rw [List.take_succ_eq_append_getElem g1, g2]
      rw [this]; exact m18
  have hiU : i = U.length := by omega
  subst hiU
  rw [List.take_of_length_le (by simp)] at mR
  rw [List.take_of_length_le (by simp)] at mK
  have sR := mR.sl
  have sK := mK.sl
  clear mR mK g1 hi
  refine blockK.hit (law30_ComposeShows_c0_wp ?_)
  have eMN := eP15.trans eN
  refine row_W kN hbc (.inl (hB.ext eMN)) okB fun M2 r1 e2 n2 => ⟨e2.keep _, ?_⟩
  have k2 := e2.ok kN
  have eN2 := eN.trans e2
  refine screen30_W k2 (by omega) (by omega) n2.sl (by omega) (sU.ext eN2) (by omega) (fun a ha => (hUg a ha).ext eN2) (fun a ha => (hUok a ha).1) fun M4 gv e4 g4 => ⟨e4.keep _, gv, rfl, .int .i64 0, rfl, ?_⟩
  have k4 := e4.ok k2
  have eN4 := eN2.trans e4
  refine screen30_W (T := U.reverse) k4 (by omega) (by omega) (n2.ext e4).sl (by omega) (sK.ext (e2.trans e4)) (by simp; omega) (fun a ha => (hUg a (List.mem_reverse.1 ha)).ext eN4) (fun a ha => (hUok a (List.mem_reverse.1 ha)).1) fun M8 hv e8 g8 => ⟨e8.keep _, hv, rfl, .int .i64 0, rfl, ?_⟩
  have sh := shows_all (R := R) (C := C) (by omega) (rowF bc B []) hin hap
  rw [screen_rev (by omega) _ hin hap] at g8
  have wS : WhG (screenF R C (rowF bc B []) U) := tiles_wh (scr0 R C (by omega) _) (screen0_ok R C ok1.1 ok1.2).1 (screen0_ok R C ok1.1 ok1.2).2 fun a ha => (hUok a ha).2
  generalize screenF R C (rowF bc B []) U = S at g4 g8 sh wS
  have gS := (g4.ext e8).gr
  have gH := g8.gr
  have k8 := e8.ok k4
  have hlS := sh.scr.len
  refine s_neF (by simp) (wpIf.ff (s_neF (by simp) (wpIf.ff ?_)))
  refine gsame_W k8 gS gH (fun L hL => by rw [sh.scr.row L hL]; omega) (by omega) ⟨KeepB.refl _ _, ?_⟩
  rw [decide_eq_true rfl]
  refine ⟨_, rfl, wpIf.ff (step_lenG gS (s_neF (fun hh => hh (by omega)) (wpIf.ff ?_)))⟩
  refine rdG gS (i := 0) (by omega) sh.top fun _ x sx => ⟨zeroC.val, rfl, ?_⟩
  refine resize_W (freeze_ok _) ((n2.ext (e4.trans e8)).sl.freeze) (by omega) (by omega) fun M22 r21 e22 n22 => ⟨e22.keepF _, ?_⟩
  rw [Int.toNat_natCast] at n22
  have e22 : Ext M8 (M22.thaw M8.base) := Ext.thaw e22
  have s22 : Sl (M22.thaw M8.base) r21 (resizeF (rowF bc B []) C zeroC) := n22.sl
  generalize M22.thaw M8.base = P0 at e22 s22 ⊢
  refine same_W (e22.ok k8) (sx.ext e22) s22 (by rw [resizeF_len]; omega) ⟨KeepB.refl _ _, ?_⟩
  rw [decide_eq_true rfl]
  refine ⟨_, rfl, wpIf.ff (law30_ComposeShows_c2_wp ?_)⟩
  have eP0 : Ext M15 P0 := (eN4.trans e8).trans e22
  have kP0 := eP0.ok k15
  have gS := gS.ext e22
  have sU := sU.ext eP0
  have sR := sR.ext (((e2.trans e4).trans e8).trans e22)
  have hUg : ∀ a ∈ U, Gr P0 a.1.v a.2 := fun a ha => (hUg a ha).ext eP0
  have hb1 : b1 < P0.size := by have := eP0.size; omega
  clear e22 s22 gH g8 g4 sx n22 n2 sK eN4 eN2 eMN eN eP15 eP0
  have hrok : ∀ a ∈ U.rcs, a.ok := fun a ha => by
    have := of_decide_eq_true (ck2 a ha)
    exact ⟨⟨by omega, by omega⟩, ⟨by omega, by omega⟩, ⟨by omega, by omega⟩, ⟨by omega, by omega⟩⟩
  refine ⟨law30_ComposeShows_l4_m, sh4I P0 b1 R C y0 y1 bc bv av rv gv, ⟨R - 1, 1, P0, rfl, Ext.refl _, by omega, by omega, rfl⟩, ?_⟩
  rintro k s ⟨i, N', rfl, eX, hi1, hi, rfl⟩
  have kX := eX.ok kP0
  refine law30_ComposeShows_l4_wp (I := sh4I P0 b1 R C y0 y1 bc bv av rv gv) (step_lss (wpIf.dec (fun g1 => ?_) (fun g1 => ?_)))
  rotate_left
  · exact blockK.hit (law30_ComposeShows_c3_wp (q _))
  obtain ⟨L, hL⟩ : ∃ L, S[i]? = some L := ⟨_, List.getElem?_eq_getElem (by omega)⟩
  have hLl := sh.scr.row L (List.mem_of_getElem? hL)
  have hLw : wholeF L = true := whole_iff.2 (wS L (List.mem_of_getElem? hL))
  refine rdG (gS.ext eX) (by omega) (by rw [Int.toNat_natCast]; exact hL) fun _ x sx => step_lenS sx (s_neF (fun hh => hh (by omega)) (wpIf.ff ?_))
  refine rdG (gS.ext eX) (by omega) (by rw [Int.toNat_natCast]; exact hL) fun _ x sx => ?_
  refine whole_W kX sx (by omega) fun M9 e9 => ⟨e9.keep _, .bool false, by rw [hLw]; rfl, wpIf.ff (law30_ComposeShows_c6_wp ?_)⟩
  have eX9 := eX.trans e9
  refine ⟨law30_ComposeShows_l7_m, sh7I P0 b1 R C y0 y1 bc bv av rv gv i, ⟨C, 0, M9, rfl, eX9, Nat.zero_le _, rfl⟩, ?_⟩
  clear eX kX sx e9 eX9
  rintro k s ⟨c, N', rfl, eX, hc, rfl⟩
  have kX := eX.ok kP0
  refine law30_ComposeShows_l7_wp (I := sh7I P0 b1 R C y0 y1 bc bv av rv gv i) (step_lss (wpIf.dec (fun g2 => ?_) (fun g2 => ?_)))
  rotate_left
  · exact blockK.hit (blockK.n (seqK.n (law30_ComposeShows_c5_wp (step_add (by omega) (by omega) ⟨R - (i + 1), by omega, i + 1, N', rfl, eX, by omega, by omega, rfl⟩))))
  obtain ⟨d, hd⟩ : ∃ d, L[c]? = some d := ⟨_, List.getElem?_eq_getElem (by omega)⟩
  have hcell : d = cellS U i c := Option.some.inj (hd.symm.trans (sh.at' i c L hi1 hL (by omega)))
  refine ⟨zeroC.val, rfl, rfl, fun b3 M4 hb3 hM4 => ⟨⟨rfl, rfl, by decide⟩, fun M5 hM5 => ⟨posV ((i : Int), (c : Int)), rfl, ?_⟩⟩⟩
  have e4 : Ext P0 M4 := eX.trans (Ext.push' hM4)
  have s4 : M4.size = N'.size + 1 := by rw [hM4]; rfl
  have sX := eX.size
  have e5 : Ext P0 M5 := hM5 ▸ e4.set (by omega) (by omega) _
  have s5 : M5.size = M4.size := by rw [hM5]; rfl
  refine at_W (e5.ok kP0) (sR.ext e5) hrok (by rw [hUc]; omega) ⟨by omega, by omega⟩ ⟨by omega, by omega⟩ fun M8 n e8 hn => ⟨e8.keep _, ?_⟩
  have e08 := e5.trans e8
  rcases hn with ⟨rfl, hno⟩ | ⟨j, a, rfl, hj, hh, _⟩
  · refine s_geF (by omega) (wpIf.ff ?_)
    have hok : d = zeroC ∨ (zeroC.kind ≠ 0 ∧ d = zeroC.bare) := .inl (hcell.trans (find_no fun a ha => hno a.1.r (List.mem_map.2 ⟨a, ha, rfl⟩)))
    refine law30_ComposeShows_c8_wp (I := sh7I P0 b1 R C y0 y1 bc bv av rv gv i) (LGetN.as (.agg (zeroC : Ce).attr.cells.toArray) (by exact Nat.le_of_ble_eq_true rfl) rfl (LGet.mk (v := .int .u8 (zeroC : Ce).label) rfl ⟨(zeroC : Ce).bare.val, rfl, rfl, fun c4 Mf5 hc4 hMf5 => ⟨⟨rfl, rfl, by decide⟩, fun Mf6 hMf6 => ?_⟩⟩))
    have ef5 : Ext P0 Mf5 := (e08).trans (Ext.push' hMf5)
    have sf5 : Mf5.size = (M8).size + 1 := by rw [hMf5]; rfl
    have sf3 := (e08).size
    have ef6 : Ext P0 Mf6 := hMf6 ▸ ef5.set (by omega) (by omega) _
    have nxt : ∃ j, j < C - c ∧ sh7I P0 b1 R C y0 y1 bc bv av rv gv i j (law30_ComposeShows_l7_s (.int .i64 R) (.int .i64 C) av rv gv (.int .i64 i) (.int .i64 ((c : Int) + 1)) b1 (.int .u8 y0) (.int .u8 y1) (.int .u8 bc) bv [] Mf6) := ⟨C - (c + 1), by omega, c + 1, Mf6, rfl, ef6, by omega, rfl⟩
    refine rdG (gS.ext ef6) (by omega) (by rw [Int.toNat_natCast]; exact hL) fun _ xl sl => ?_
    refine rd sl (by omega) (by rw [Int.toNat_natCast]; exact hd) fun _ => ?_
    refine LGetN.as (zeroC : Ce).val (by exact Nat.le_refl 14) rfl (step_neqCe (a := d) (b := zeroC) (wpIf.dec (fun hne => ?_) (fun heq => step_add (by omega) (by omega) nxt)))
    obtain ⟨hk, hdb⟩ := hok.resolve_left hne
    refine LGet.mk (v := .int .u8 (zeroC : Ce).kind) rfl (s_eqF hk (wpIf.ff ?_))
    refine rdG (gS.ext ef6) (by omega) (by rw [Int.toNat_natCast]; exact hL) fun _ xl sl => ?_
    refine rd sl (by omega) (by rw [Int.toNat_natCast]; exact hd) fun _ => ?_
    refine LGetN.as (zeroC : Ce).bare.val (by exact Nat.le_refl 14) rfl (step_neqCe (a := d) (b := (zeroC : Ce).bare) ?_)
    rw [decide_eq_false (fun h => h hdb)]
    exact wpIf.ff (step_add (by omega) (by omega) nxt)
  obtain ⟨t, ht, hta⟩ : ∃ t, U[j]? = some t ∧ t.1.r = a := by
    have : (U.map fun a => a.1.r)[j]? = some a := hj
    rw [List.getElem?_map] at this
    obtain ⟨t, h3, h4⟩ := Option.map_eq_some_iff.1 this
    exact ⟨t, h3, h4⟩
  subst hta
  have dh := of_decide_eq_true hh
  have din := of_decide_eq_true (hin t (List.mem_of_getElem? ht))
  have hds : d = shownC t i c := hcell.trans (find_at hap ht hh)
  have hok := shown_ok t i c
  rw [← hds] at hok
  have hjr : U.rcs[(j : Int).toNat]? = some t.1.r := by rw [Int.toNat_natCast]; exact hj
  have hloc : locF t.1.r i c = ((i : Int) - t.1.r.t, (c : Int) - t.1.r.l) := if_pos hh
  refine s_geT (by omega) (wpIf.tt ?_)
  refine rd (sR.ext e08) (by omega) hjr fun _ => ⟨posV ((i : Int), (c : Int)), rfl, ?_⟩
  refine local_W (e08.ok kP0) (hrok _ (List.mem_of_getElem? hj)) ⟨by omega, by omega⟩ ⟨by omega, by omega⟩ fun M14 e14 => ⟨e14.keep _, ?_⟩
  rw [hloc, hh]
  have e014 := e08.trans e14
  refine ⟨_, rfl, _, rfl, rfl, fun b17 M18 hb17 hM18 => ⟨⟨rfl, rfl, by decide⟩, fun M19 hM19 => ?_⟩⟩
  have e18 : Ext P0 M18 := e014.trans (Ext.push' hM18)
  have s14 := e014.size
  have s18 : M18.size = M14.size + 1 := by rw [hM18]; rfl
  have e19 : Ext P0 M19 := hM19 ▸ e18.set (by omega) (by omega) _
  have s19 : M19.size = M18.size := by rw [hM19]; rfl
  refine rd (sR.ext e19) (by omega) hjr fun _ => ?_
  refine LGetN.as (posV ((i : Int) - t.1.r.t, (c : Int) - t.1.r.l)) (by exact Nat.le_refl 2) rfl ?_
  refine place_W (freeze_ok _) (p := ((i : Int) - t.1.r.t, (c : Int) - t.1.r.l)) ⟨by simp only; omega, by simp only; omega⟩ ⟨by simp only; omega, by simp only; omega⟩ ⟨by omega, by simp only; omega⟩ ⟨by omega, by simp only; omega⟩ fun M24 e24 => ⟨e24.keepF _, ?_⟩
  have e24 : Ext M19 (M24.thaw M19.base) := Ext.thaw e24
  generalize M24.thaw M19.base = N24 at e24 ⊢
  have e024 := e19.trans e24
  refine ⟨_, rfl, _, rfl, rfl, fun b27 M28 hb27 hM28 => ⟨⟨rfl, rfl, by decide⟩, fun M29 hM29 => ?_⟩⟩
  have e28 : Ext P0 M28 := e024.trans (Ext.push' hM28)
  have s24 := e024.size
  have s24' := e24.size
  have s28 : M28.size = N24.size + 1 := by rw [hM28]; rfl
  have e29 : Ext P0 M29 := hM29 ▸ e28.set (by omega) (by omega) _
  have s29 : M29.size = M28.size := by rw [hM29]; rfl
  have s14' := e14.size
  have s8' := e8.size
  refine ⟨_, rfl, wpIf.ff ⟨_, rfl, wpIf.ff ?_⟩⟩
  refine LGetN.as (posV (t.1.r.t + ((i : Int) - t.1.r.t), t.1.r.l + ((c : Int) - t.1.r.l))) (by exact Nat.le_refl 2) rfl ⟨posV ((i : Int), (c : Int)), rfl, ?_⟩
  refine step_nePs (Prod.ext (by simp only; omega) (by simp only; omega)) (wpIf.ff ?_)
  have hjt : U.row[(j : Int).toNat]? = some t.1 := by rw [Int.toNat_natCast]; show (U.map _)[_]? = _; rw [List.getElem?_map, ht]; rfl
  have hgt := hUg t (List.mem_of_getElem? ht)
  refine law30_ComposeShows_c9_wp (I := sh7I P0 b1 R C y0 y1 bc bv av rv gv i) ?_
  refine rd_f (sU.ext e29) (by omega) hjt (f := 4) (x := t.1.v) rfl fun _ _ => LGet.mk (v := .int .i64 ((i : Int) - t.1.r.t)) rfl (step_lenG (hgt.ext e29) (step_lss (wpIf.dec (fun g3 => ?_) (fun g3 => ?_))))
  rotate_left
  · have hzero : ownC t i c = zeroC := by
      unfold ownC
      have : t.2.getD ((i : Int) - t.1.r.t).toNat [] = [] := by rw [List.getD_eq_getElem?_getD, List.getElem?_eq_none (by omega)]; rfl
      rw [this]; rfl
    rw [hzero] at hok
    refine law30_ComposeShows_c8_wp (I := sh7I P0 b1 R C y0 y1 bc bv av rv gv i) (LGetN.as (.agg (zeroC : Ce).attr.cells.toArray) (by exact Nat.le_of_ble_eq_true rfl) rfl (LGet.mk (v := .int .u8 (zeroC : Ce).label) rfl ⟨(zeroC : Ce).bare.val, rfl, rfl, fun c4 Mf5 hc4 hMf5 => ⟨⟨rfl, rfl, by decide⟩, fun Mf6 hMf6 => ?_⟩⟩))
    have ef5 : Ext P0 Mf5 := (e29).trans (Ext.push' hMf5)
    have sf5 : Mf5.size = (M29).size + 1 := by rw [hMf5]; rfl
    have sf3 := (e29).size
    have ef6 : Ext P0 Mf6 := hMf6 ▸ ef5.set (by omega) (by omega) _
    have nxt : ∃ j, j < C - c ∧ sh7I P0 b1 R C y0 y1 bc bv av rv gv i j (law30_ComposeShows_l7_s (.int .i64 R) (.int .i64 C) av rv gv (.int .i64 i) (.int .i64 ((c : Int) + 1)) b1 (.int .u8 y0) (.int .u8 y1) (.int .u8 bc) bv [] Mf6) := ⟨C - (c + 1), by omega, c + 1, Mf6, rfl, ef6, by omega, rfl⟩
    refine rdG (gS.ext ef6) (by omega) (by rw [Int.toNat_natCast]; exact hL) fun _ xl sl => ?_
    refine rd sl (by omega) (by rw [Int.toNat_natCast]; exact hd) fun _ => ?_
    refine LGetN.as (zeroC : Ce).val (by exact Nat.le_refl 14) rfl (step_neqCe (a := d) (b := zeroC) (wpIf.dec (fun hne => ?_) (fun heq => step_add (by omega) (by omega) nxt)))
    obtain ⟨hk, hdb⟩ := hok.resolve_left hne
    refine LGet.mk (v := .int .u8 (zeroC : Ce).kind) rfl (s_eqF hk (wpIf.ff ?_))
    refine rdG (gS.ext ef6) (by omega) (by rw [Int.toNat_natCast]; exact hL) fun _ xl sl => ?_
    refine rd sl (by omega) (by rw [Int.toNat_natCast]; exact hd) fun _ => ?_
    refine LGetN.as (zeroC : Ce).bare.val (by exact Nat.le_refl 14) rfl (step_neqCe (a := d) (b := (zeroC : Ce).bare) ?_)
    rw [decide_eq_false (fun h => h hdb)]
    exact wpIf.ff (step_add (by omega) (by omega) nxt)
  obtain ⟨O, hO⟩ : ∃ O, t.2[((i : Int) - t.1.r.t).toNat]? = some O := ⟨_, List.getElem?_eq_getElem (by omega)⟩
  have hOd : t.2.getD ((i : Int) - t.1.r.t).toNat [] = O := getD_some hO
  refine LGet.mk (v := .int .i64 ((c : Int) - t.1.r.l)) rfl (LGet.mk (v := .int .i64 ((i : Int) - t.1.r.t)) rfl ?_)
  refine rdG (hgt.ext e29) (by omega) hO fun _ xo so => step_lenS so (step_lss (wpIf.dec (fun g4 => ?_) (fun g4 => ?_)))
  rotate_left
  · have hzero : ownC t i c = zeroC := by
      unfold ownC
      rw [hOd, List.getD_eq_getElem?_getD, List.getElem?_eq_none (by omega)]; rfl
    rw [hzero] at hok
    refine law30_ComposeShows_c8_wp (I := sh7I P0 b1 R C y0 y1 bc bv av rv gv i) (LGetN.as (.agg (zeroC : Ce).attr.cells.toArray) (by exact Nat.le_of_ble_eq_true rfl) rfl (LGet.mk (v := .int .u8 (zeroC : Ce).label) rfl ⟨(zeroC : Ce).bare.val, rfl, rfl, fun c4 Mf5 hc4 hMf5 => ⟨⟨rfl, rfl, by decide⟩, fun Mf6 hMf6 => ?_⟩⟩))
    have ef5 : Ext P0 Mf5 := (e29).trans (Ext.push' hMf5)
    have sf5 : Mf5.size = (M29).size + 1 := by rw [hMf5]; rfl
    have sf3 := (e29).size
    have ef6 : Ext P0 Mf6 := hMf6 ▸ ef5.set (by omega) (by omega) _
    have nxt : ∃ j, j < C - c ∧ sh7I P0 b1 R C y0 y1 bc bv av rv gv i j (law30_ComposeShows_l7_s (.int .i64 R) (.int .i64 C) av rv gv (.int .i64 i) (.int .i64 ((c : Int) + 1)) b1 (.int .u8 y0) (.int .u8 y1) (.int .u8 bc) bv [] Mf6) := ⟨C - (c + 1), by omega, c + 1, Mf6, rfl, ef6, by omega, rfl⟩
    refine rdG (gS.ext ef6) (by omega) (by rw [Int.toNat_natCast]; exact hL) fun _ xl sl => ?_
    refine rd sl (by omega) (by rw [Int.toNat_natCast]; exact hd) fun _ => ?_
    refine LGetN.as (zeroC : Ce).val (by exact Nat.le_refl 14) rfl (step_neqCe (a := d) (b := zeroC) (wpIf.dec (fun hne => ?_) (fun heq => step_add (by omega) (by omega) nxt)))
    obtain ⟨hk, hdb⟩ := hok.resolve_left hne
    refine LGet.mk (v := .int .u8 (zeroC : Ce).kind) rfl (s_eqF hk (wpIf.ff ?_))
    refine rdG (gS.ext ef6) (by omega) (by rw [Int.toNat_natCast]; exact hL) fun _ xl sl => ?_
    refine rd sl (by omega) (by rw [Int.toNat_natCast]; exact hd) fun _ => ?_
    refine LGetN.as (zeroC : Ce).bare.val (by exact Nat.le_refl 14) rfl (step_neqCe (a := d) (b := (zeroC : Ce).bare) ?_)
    rw [decide_eq_false (fun h => h hdb)]
    exact wpIf.ff (step_add (by omega) (by omega) nxt)
  obtain ⟨w, hw⟩ : ∃ w, O[((c : Int) - t.1.r.l).toNat]? = some w := ⟨_, List.getElem?_eq_getElem (by omega)⟩
  have hown : ownC t i c = w := by
    unfold ownC
    rw [hOd, List.getD_eq_getElem?_getD, hw]; rfl
  rw [hown] at hok
  refine LGet.mk (v := .int .i64 ((i : Int) - t.1.r.t)) rfl ?_
  refine rdG (hgt.ext e29) (by omega) hO fun _ xo so => LGet.mk (v := .int .i64 ((c : Int) - t.1.r.l)) rfl ?_
  refine rd so (by omega) hw fun _ => ⟨⟨rfl, rfl, by decide⟩, fun M31 hM31 => ?_⟩
  have e31 : Ext P0 M31 := hM31 ▸ e29.set (by omega) (by omega) _
  have s31 : M31.size = M29.size := by rw [hM31]; rfl
  refine law30_ComposeShows_c8_wp (I := sh7I P0 b1 R C y0 y1 bc bv av rv gv i) (LGetN.as (.agg (w : Ce).attr.cells.toArray) (by exact Nat.le_of_ble_eq_true rfl) rfl (LGet.mk (v := .int .u8 (w : Ce).label) rfl ⟨(w : Ce).bare.val, rfl, rfl, fun c4 Mf5 hc4 hMf5 => ⟨⟨rfl, rfl, by decide⟩, fun Mf6 hMf6 => ?_⟩⟩))
  have ef5 : Ext P0 Mf5 := (e31).trans (Ext.push' hMf5)
  have sf5 : Mf5.size = (M31).size + 1 := by rw [hMf5]; rfl
  have sf3 := (e31).size
  have ef6 : Ext P0 Mf6 := hMf6 ▸ ef5.set (by omega) (by omega) _
  have nxt : ∃ j, j < C - c ∧ sh7I P0 b1 R C y0 y1 bc bv av rv gv i j (law30_ComposeShows_l7_s (.int .i64 R) (.int .i64 C) av rv gv (.int .i64 i) (.int .i64 ((c : Int) + 1)) b1 (.int .u8 y0) (.int .u8 y1) (.int .u8 bc) bv [] Mf6) := ⟨C - (c + 1), by omega, c + 1, Mf6, rfl, ef6, by omega, rfl⟩
  refine rdG (gS.ext ef6) (by omega) (by rw [Int.toNat_natCast]; exact hL) fun _ xl sl => ?_
  refine rd sl (by omega) (by rw [Int.toNat_natCast]; exact hd) fun _ => ?_
  refine LGetN.as (w : Ce).val (by exact Nat.le_refl 14) rfl (step_neqCe (a := d) (b := w) (wpIf.dec (fun hne => ?_) (fun heq => step_add (by omega) (by omega) nxt)))
  obtain ⟨hk, hdb⟩ := hok.resolve_left hne
  refine LGet.mk (v := .int .u8 (w : Ce).kind) rfl (s_eqF hk (wpIf.ff ?_))
  refine rdG (gS.ext ef6) (by omega) (by rw [Int.toNat_natCast]; exact hL) fun _ xl sl => ?_
  refine rd sl (by omega) (by rw [Int.toNat_natCast]; exact hd) fun _ => ?_
  refine LGetN.as (w : Ce).bare.val (by exact Nat.le_refl 14) rfl (step_neqCe (a := d) (b := (w : Ce).bare) ?_)
  rw [decide_eq_false (fun h => h hdb)]
  exact wpIf.ff (step_add (by omega) (by omega) nxt)
end
end Go.Proofs.Ytkelbhcaecojkaa.Run
