/- The law PaneTells of chapter 26: the walk. -/
import Derived.Test.YtacabjkhhejjcaaTells
namespace Go.Proofs.Ytacabjkhhejjcaa.Run
open Go Go.RowKit
set_option linter.unusedVariables false
set_option linter.unusedSimpArgs false

theorem s_rcSame {P : Value → Prop} {a : Rc} (p : P (.bool false)) : ∃ v, binV .neq 2 [0, 0, 0, 0] a.val a.val = some v ∧ P v := by
  refine ⟨.bool false, ?_, p⟩
  have h : eqV true [0, 0, 0, 0] a.val a.val = some true := by
    show eqCells [0, 0, 0, 0] _ _ = _
    refine Eq.trans (eqK_int (eqK_int (eqK_int (eqK_int eqK_nil)))) ?_
    simp
  show (eqV true [0, 0, 0, 0] a.val a.val).bind (negIf .neq) = _
  rw [h]; rfl
theorem s_boolEq {P : Value → Prop} {b : Bool} (p : P (.bool true)) : ∃ v, binV .eql 1 [] (.bool b) (.bool b) = some v ∧ P v := by
  cases b <;> exact ⟨_, rfl, p⟩

section
variable {M : Mem} {Q : Value → Mem → Prop}
abbrev t1I (P : Mem) (R C : Int) (X : Value) (b1 : Nat) (a : Rc) (b3 : Nat) (e0 e1 e2 : Value) : Nat → LS → Prop := fun k s => ∃ (n : Nat) (M' : Mem), s = law26_PaneTells_l1_s (.int .i64 R) (.int .i64 C) X (.int .i64 n) b1 (.int .i64 a.t) (.int .i64 a.l) (.int .i64 a.r) (.int .i64 a.c) b3 e0 e1 e2 [] M' ∧ Ext P M' ∧ n ≤ 4 ∧ k = 4 - n
abbrev t4I (P : Mem) (R C : Int) (v X : Value) (n : Nat) (b1 : Nat) (a : Rc) (b3 : Nat) (e0 e1 e2 : Value) : Nat → LS → Prop := fun k s => ∃ (i : Nat) (M' : Mem), s = law26_PaneTells_l4_s (.int .i64 R) (.int .i64 C) v (.int .i64 i) X (.int .i64 n) b1 (.int .i64 a.t) (.int .i64 a.l) (.int .i64 a.r) (.int .i64 a.c) b3 e0 e1 e2 [] M' ∧ Ext P M' ∧ (i : Int) ≤ R ∧ k = R.toNat - i
abbrev t6I (P : Mem) (R C : Int) (v X : Value) (n : Nat) (b1 : Nat) (a : Rc) (b3 : Nat) (e0 e1 e2 : Value) (i : Nat) : Nat → LS → Prop := fun k s => ∃ (c : Nat) (M' : Mem), s = law26_PaneTells_l6_s (.int .i64 R) (.int .i64 C) v (.int .i64 i) (.int .i64 c) X (.int .i64 n) b1 (.int .i64 a.t) (.int .i64 a.l) (.int .i64 a.r) (.int .i64 a.c) b3 e0 e1 e2 [] M' ∧ Ext P M' ∧ (c : Int) ≤ C ∧ k = C.toNat - c
abbrev t8I (N : Mem) (R C : Int) (v w : Value) (m : Nat) (b1 : Nat) (a : Rc) (b3 : Nat) (e0 e1 e2 : Value) : Nat → LS → Prop := fun k s => ∃ (i : Nat), s = law26_PaneTells_l8_s (.int .i64 R) (.int .i64 C) v w (.int .i64 i) b1 (.int .i64 a.t) (.int .i64 a.l) (.int .i64 a.r) (.int .i64 a.c) b3 e0 e1 e2 [] N ∧ i ≤ m ∧ k = m - i

set_option maxHeartbeats 4000000 in
theorem tellsLaw_W (hM : M.base ≤ M.size) {dv : Value} {D : List Dr} (hD : Sl M dv D) (okD : ∀ d ∈ D, d.ok) {a : Rc} (ha : a.ok) {y0 y1 y2 : Int} (h0 : 0 ≤ y0 ∧ y0 ≤ 65535) (h1 : 0 ≤ y1 ∧ y1 ≤ 65535) (h2 : -128 ≤ y2 ∧ y2 ≤ 127) (q : ∀ M', Q (.bool true) M') : W funs known (.func (.func n_law26_PaneTells) #[] #[]) [dv, a.val, .agg #[.int .u16 y0, .int .u16 y1, .int .i8 y2]] M Q := by
  obtain ⟨a0, c0, rfl⟩ := hD.shape
  refine law26_PaneTells_wp hM ⟨rfl, fun b1 M2 hb1 hM2 => ⟨rfl, fun b3 P hb3 hP => ?_⟩⟩
  have eM2 : Ext M M2 := Ext.push' hM2
  have eP : Ext M P := eM2.trans (Ext.push' hP)
  have s2 : M2.size = M.size + 1 := by rw [hM2]; rfl
  have sP : P.size = M2.size + 1 := by rw [hP]; rfl
  have kP := eP.ok hM
  refine step_rem16 (by omega) (by omega) (step_conv (IntWalk.i64_in _ (by omega)) (step_rem16 (by omega) (by omega) (step_conv (IntWalk.i64_in _ (by omega)) ?_)))
  have hR : 0 ≤ y0 % 16 ∧ y0 % 16 ≤ 15 := by omega
  have hC : 0 ≤ y1 % 18 ∧ y1 % 18 ≤ 17 := by omega
  generalize y0 % 16 = R at *
  generalize y1 % 18 = C at *
  refine drawn_W kP (hD.ext eP) okD fun M10 o G0 e10 m10 sm len => ⟨e10.keep _, ?_⟩
  have k10 := e10.ok kP
  refine kept_W k10 m10.sl (fun a ha => (sm a ha).ok) (by omega) fun M12 w G e12 m12 sub len2 chk => ⟨e12.keep _, ?_⟩
  have k12 := e12.ok k10
  have sl0 := m10.sl.ext e12
  have sl1 := m12.sl
  have hokG : ∀ a ∈ G, a.ok := fun a ha => (sm a (sub a ha)).ok
  have z12 : ∀ b ∈ [b1, b3], b < M12.size := fun b hb => by
    have := e10.size
    have := e12.size
    simp only [List.mem_cons, List.not_mem_nil, or_false] at hb
    omega
  have e4 : Ext M12 ((M12.freeze.push (.cells [] 34 true)).thaw M12.base) := Ext.thaw (Ext.push M12.freeze _)
  have g4 : ((M12.freeze.push (.cells [] 34 true)).thaw M12.base).freeze.get M12.size = some (.cells [] 34 true) := by
    show (M12.freeze.push (.cells [] 34 true)).get M12.size = _
    rw [Mem.get_push]; exact if_pos rfl
  refine ⟨.slice (some ⟨M12.size, 0, some 0⟩) 0 0, M12.freeze.push (.cells [] 34 true), rfl, (Ext.push M12.freeze _).keepF _, ?_⟩
  generalize (M12.freeze.push (.cells [] 34 true)).thaw M12.base = P1 at e4 g4 ⊢
  obtain ⟨v15, M16, h15, e16, n16⟩ := copy_x (M := P1.freeze) (M₀ := M12) (b := M12.size) (Nat.le_refl _) e4.size g4 ((sl1.ext e4).freeze).srcs (by omega)
  refine ⟨v15, M16, h15, e16.keepF _, ?_⟩
  have eQ : Ext P1 (M16.thaw M12.base) := e4.base ▸ Ext.thaw e16
  have nQ : New 34 M12 (M16.thaw M12.base) v15 G := n16
  generalize M16.thaw M12.base = P2 at eQ nQ ⊢
  have eP2 : Ext M12 P2 := e4.trans eQ
  obtain ⟨v17, M18, h17, e18, sl18⟩ := lit1 a P2.freeze
  refine ⟨v17, M18, h17, e18.keepF _, ?_⟩
  have eR : Ext P2 (M18.thaw M12.base) := eP2.base ▸ Ext.thaw e18
  have slR : Sl (M18.thaw M12.base) v17 [a] := sl18
  generalize M18.thaw M12.base = P3 at eR slR ⊢
  have eP3 : Ext M12 P3 := eP2.trans eR
  obtain ⟨v19, P4, h19, eS', m19, z1, z2, z3⟩ := append_ok (ty := 34) (bytes := 32) eP3 k12 (.inl (nQ.ext eR)) slR.srcs (by simp only [List.length_singleton]; omega) (by simp only [List.length_singleton]; omega)
  obtain ⟨ad17, hv17⟩ : ∃ ad, v15 = .slice ad G.length G.length := by obtain ⟨b, sp, h, _⟩ := nQ; exact ⟨_, h⟩
  subst hv17
  refine ⟨v19, P4, opSemQ_app h19, (fun c hc _ => by rw [eS'.get _ (z12 c hc), eP3.get _ (z12 c hc)]), ?_⟩
  have slS : Sl P4 v19 (G ++ [a]) := m19.sl
  have eP4 : Ext M12 P4 := eS'
  obtain ⟨v21, M22, h21, e22, sl22⟩ := lit1 a P4.freeze
  refine ⟨v21, M22, h21, e22.keepF _, ?_⟩
  have eT : Ext P4 (M22.thaw P4.base) := Ext.thaw e22
  have slT : Sl (M22.thaw P4.base) v21 [a] := sl22
  generalize M22.thaw P4.base = P0 at eT slT ⊢
  have eP0 : Ext M12 P0 := eP4.trans eT
  have k0 := eP0.ok k12
  have r0 := sl0.ext eP0
  have r1 := sl1.ext eP0
  have r2 := slS.ext eT
  clear h15 h17 h19 h21 n16 m19 nQ m10 m12
  obtain ⟨oa, oc, rfl⟩ := r0.shape
  obtain ⟨wa, wc, rfl⟩ := r1.shape
  obtain ⟨ua, uc, rfl⟩ := r2.shape
  obtain ⟨ta, tc, rfl⟩ := slT.shape
  refine ⟨.agg #[.slice oa G0.length oc, .slice wa G.length wc, .slice ua (G ++ [a]).length uc, .slice ta [a].length tc], rfl, ?_⟩
  obtain ⟨X, hX⟩ : ∃ X : Value, X = .agg #[.slice oa G0.length oc, .slice wa G.length wc, .slice ua (G ++ [a]).length uc, .slice ta [a].length tc] := ⟨_, rfl⟩
  have hsel : ∀ n : Nat, n < 4 → ∃ (v : Value) (L : List Rc), (∀ N, opSem (.idxA 4 none 1 (.const X) (.const (.int .i64 n))) [] N = some (v, N)) ∧ Sl P0 v L ∧ (∀ a ∈ L, a.ok) ∧ L.length ≤ 11 := by
    intro n hn
    subst hX
    have : n = 0 ∨ n = 1 ∨ n = 2 ∨ n = 3 := by omega
    rcases this with rfl | rfl | rfl | rfl
    · exact ⟨_, G0, fun _ => rfl, r0, fun a ha => (sm a ha).ok, by omega⟩
    · exact ⟨_, G, fun _ => rfl, r1, hokG, by omega⟩
    · refine ⟨_, G ++ [a], fun _ => rfl, r2, fun b hb => ?_, by simp only [List.length_append, List.length_singleton]; omega⟩
      rcases List.mem_append.1 hb with hb | hb
      · exact hokG b hb
      · rw [List.mem_singleton] at hb; exact hb ▸ ha
    · exact ⟨_, [a], fun _ => rfl, slT, fun b hb => by rw [List.mem_singleton] at hb; exact hb ▸ ha, by simp⟩
  rw [← hX]
  refine ⟨law26_PaneTells_l1_m, t1I P0 R C X b1 a b3 (.int .u16 y0) (.int .u16 y1) (.int .i8 y2), ⟨4, 0, P0, rfl, Ext.refl _, Nat.zero_le _, rfl⟩, ?_⟩
  clear r0 r1 r2 slT slS slR hX sl0 sl1
  rintro k s ⟨n, M', rfl, eM, hn, rfl⟩
  refine law26_PaneTells_l1_wp (I := t1I P0 R C X b1 a b3 (.int .u16 y0) (.int .u16 y1) (.int .i8 y2)) ?_
  refine step_lss (wpIf.dec (fun g => ?_) (fun g => ?_))
  · obtain ⟨v, L, hv, slL, hokL, hL⟩ := hsel n (by omega)
    refine ⟨v, hv _, check_W (eM.ok k0) (slL.ext eM) hokL (by omega) ⟨by omega, by omega⟩ ⟨by omega, by omega⟩ fun N4 e4 => ⟨e4.keep _, ?_⟩⟩
    have f4 := eM.trans e4
    refine rcheck_W (f4.ok k0) (slL.ext f4) hokL (by omega) fun N6 e6 => ⟨e6.keep _, s_neF (fun h => h rfl) (wpIf.ff ?_)⟩
    have f6 := f4.trans e6
    by_cases hs : screenF R C = true
    · refine free_W (f6.ok k0) (slL.ext f6) hokL (by omega) (fun h => by rw [hs] at h; cases h) fun _ N9 e9 T hT => ⟨e9.keep _, ?_⟩
      have f9 := f6.trans e9
      refine rfree_W (f9.ok k0) (slL.ext f9) hokL (by omega) (fun h => by rw [hs] at h; cases h) fun _ N11 U e11 hU => ⟨e11.keep _, s_neF (fun h => h ?_) (wpIf.ff ?_)⟩
      · have := free_any hs hT hU
        omega
      have f11 := f9.trans e11
      refine law26_PaneTells_c3_wp ⟨law26_PaneTells_l4_m, t4I P0 R C v X n b1 a b3 (.int .u16 y0) (.int .u16 y1) (.int .i8 y2), ⟨R.toNat, 0, N11, rfl, f11, by omega, rfl⟩, ?_⟩
      rintro k s ⟨i, N1, rfl, f1, hi, rfl⟩
      refine law26_PaneTells_l4_wp (I := t4I P0 R C v X n b1 a b3 (.int .u16 y0) (.int .u16 y1) (.int .i8 y2)) ?_
      refine step_lss (wpIf.dec (fun g1 => ?_) (fun g1 => ?_))
      · refine ⟨law26_PaneTells_l6_m, t6I P0 R C v X n b1 a b3 (.int .u16 y0) (.int .u16 y1) (.int .i8 y2) i, ⟨C.toNat, 0, N1, rfl, f1, by omega, rfl⟩, ?_⟩
        rintro k s ⟨c, N2, rfl, f2, hc, rfl⟩
        refine law26_PaneTells_l6_wp (I := t6I P0 R C v X n b1 a b3 (.int .u16 y0) (.int .u16 y1) (.int .i8 y2) i) ?_
        refine step_lss (wpIf.dec (fun g2 => ?_) (fun g2 => ?_))
        · refine ⟨posV ((i : Int), (c : Int)), rfl, rfl, fun b5 N4 hb5 hN4 => ⟨⟨rfl, rfl, by decide⟩, fun N5 hN5 => LGetN.as (posV ((i : Int), (c : Int))) (by exact Nat.le_refl 2) rfl ?_⟩⟩
          have h4 : Ext N2 N4 := Ext.push' hN4
          have t4 : N4.size = N2.size + 1 := by rw [hN4]; rfl
          have h5 : Ext N2 N5 := hN5 ▸ h4.set (by omega) (by omega) _
          have e5 := f2.trans h5
          refine rat_W (e5.ok k0) (slL.ext e5) hokL (by omega) ⟨by omega, by omega⟩ ⟨by omega, by omega⟩ fun N8 n1 e8 hn1 => ⟨e8.keep _, LGetN.as (posV ((i : Int), (c : Int))) (by exact Nat.le_refl 2) rfl ?_⟩
          refine at_W ((e5.trans e8).ok k0) (slL.ext (e5.trans e8)) hokL (by omega) ⟨by omega, by omega⟩ ⟨by omega, by omega⟩ fun N11 n2 e11 hn2 => ⟨e11.keep _, s_neF (fun h => h (at_uniq hn2 hn1)) (wpIf.ff ?_)⟩
          have e011 := (e5.trans e8).trans e11
          rcases hn1 with ⟨rfl, hno⟩ | ⟨j, x, rfl, hj, hx, _⟩
          · exact s_geF (by omega) (wpIf.ff (step_add (by omega) (by omega) ⟨C.toNat - (c + 1), by omega, c + 1, N11, rfl, e011, by omega, rfl⟩))
          · refine s_geT (by omega) (wpIf.tt ?_)
            have hxok := hokL x (List.mem_of_getElem? hj)
            refine rd (slL.ext e011) (by omega) (by rw [Int.toNat_natCast]; exact hj) fun _ => LGetN.as (posV ((i : Int), (c : Int))) (by exact Nat.le_refl 2) rfl (local_W (freeze_ok _) hxok ⟨by omega, by omega⟩ ⟨by omega, by omega⟩ fun N18 e18 => ⟨e18.keepF _, _, rfl, _, rfl, rfl, fun b21 N22 hb21 hN22 => ⟨⟨rfl, rfl, by decide⟩, fun N23 hN23 => ?_⟩⟩)
            have h18 := Ext.thaw e18
            have h22 : Ext N11 N22 := h18.trans (Ext.push' hN22)
            have t18 := h18.size
            have t22 : N22.size = (N18.thaw N11.base).size + 1 := by rw [hN22]; rfl
            have h23 : Ext N11 N23 := hN23 ▸ h22.set (by omega) (by omega) _
            have hloc : locF x i c = ((i : Int) - x.t, (c : Int) - x.l) := by unfold locF; rw [if_pos hx]
            have hd := of_decide_eq_true hx
            obtain ⟨o1, o2, o3, o4⟩ := id hxok
            unfold I64 at o1 o2 o3 o4
            rw [hx, hloc]
            refine ⟨.bool false, rfl, wpIf.ff (LGet.mk (v := .int .i64 ((i : Int) - x.t)) rfl ?_)⟩
            refine rd_f (slL.ext (e011.trans h23)) (by omega) (by rw [Int.toNat_natCast]; exact hj) (f := 0) rfl fun _ _ => step_sub (by omega) (by omega) (s_neF (fun h => h rfl) (wpIf.ff (LGet.mk (v := .int .i64 ((c : Int) - x.l)) rfl ?_)))
            refine rd_f (slL.ext (e011.trans h23)) (by omega) (by rw [Int.toNat_natCast]; exact hj) (f := 1) rfl fun _ _ => step_sub (by omega) (by omega) (s_neF (fun h => h rfl) (wpIf.ff ?_))
            exact step_add (by omega) (by omega) ⟨C.toNat - (c + 1), by omega, c + 1, N23, rfl, e011.trans h23, by omega, rfl⟩
        · exact law26_PaneTells_l6_out (law26_PaneTells_c5_wp (step_add (by omega) (by omega) ⟨R.toNat - (i + 1), by omega, i + 1, N2, rfl, f2, by omega, rfl⟩))
      · exact law26_PaneTells_l4_out (law26_PaneTells_c2_wp (step_add (by omega) (by omega) ⟨4 - (n + 1), by omega, n + 1, N1, rfl, f1, by omega, rfl⟩))
    · have hs : screenF R C = false := by simpa using hs
      refine free_W (f6.ok k0) (slL.ext f6) hokL (by omega) (fun _ => ⟨KeepB.refl _ _, ?_⟩) (fun h => by rw [hs] at h; cases h)
      refine rfree_W (f6.ok k0) (slL.ext f6) hokL (by omega) (fun _ => ⟨KeepB.refl _ _, s_neF (fun h => h rfl) (wpIf.ff ?_)⟩) (fun h => by rw [hs] at h; cases h)
      refine law26_PaneTells_c3_wp ⟨law26_PaneTells_l4_m, t4I P0 R C v X n b1 a b3 (.int .u16 y0) (.int .u16 y1) (.int .i8 y2), ⟨R.toNat, 0, N6, rfl, f6, by omega, rfl⟩, ?_⟩
      rintro k s ⟨i, N1, rfl, f1, hi, rfl⟩
      refine law26_PaneTells_l4_wp (I := t4I P0 R C v X n b1 a b3 (.int .u16 y0) (.int .u16 y1) (.int .i8 y2)) ?_
      refine step_lss (wpIf.dec (fun g1 => ?_) (fun g1 => ?_))
      · refine ⟨law26_PaneTells_l6_m, t6I P0 R C v X n b1 a b3 (.int .u16 y0) (.int .u16 y1) (.int .i8 y2) i, ⟨C.toNat, 0, N1, rfl, f1, by omega, rfl⟩, ?_⟩
        rintro k s ⟨c, N2, rfl, f2, hc, rfl⟩
        refine law26_PaneTells_l6_wp (I := t6I P0 R C v X n b1 a b3 (.int .u16 y0) (.int .u16 y1) (.int .i8 y2) i) ?_
        refine step_lss (wpIf.dec (fun g2 => ?_) (fun g2 => ?_))
        · refine ⟨posV ((i : Int), (c : Int)), rfl, rfl, fun b5 N4 hb5 hN4 => ⟨⟨rfl, rfl, by decide⟩, fun N5 hN5 => LGetN.as (posV ((i : Int), (c : Int))) (by exact Nat.le_refl 2) rfl ?_⟩⟩
          have h4 : Ext N2 N4 := Ext.push' hN4
          have t4 : N4.size = N2.size + 1 := by rw [hN4]; rfl
          have h5 : Ext N2 N5 := hN5 ▸ h4.set (by omega) (by omega) _
          have e5 := f2.trans h5
          refine rat_W (e5.ok k0) (slL.ext e5) hokL (by omega) ⟨by omega, by omega⟩ ⟨by omega, by omega⟩ fun N8 n1 e8 hn1 => ⟨e8.keep _, LGetN.as (posV ((i : Int), (c : Int))) (by exact Nat.le_refl 2) rfl ?_⟩
          refine at_W ((e5.trans e8).ok k0) (slL.ext (e5.trans e8)) hokL (by omega) ⟨by omega, by omega⟩ ⟨by omega, by omega⟩ fun N11 n2 e11 hn2 => ⟨e11.keep _, s_neF (fun h => h (at_uniq hn2 hn1)) (wpIf.ff ?_)⟩
          have e011 := (e5.trans e8).trans e11
          rcases hn1 with ⟨rfl, hno⟩ | ⟨j, x, rfl, hj, hx, _⟩
          · exact s_geF (by omega) (wpIf.ff (step_add (by omega) (by omega) ⟨C.toNat - (c + 1), by omega, c + 1, N11, rfl, e011, by omega, rfl⟩))
          · refine s_geT (by omega) (wpIf.tt ?_)
            have hxok := hokL x (List.mem_of_getElem? hj)
            refine rd (slL.ext e011) (by omega) (by rw [Int.toNat_natCast]; exact hj) fun _ => LGetN.as (posV ((i : Int), (c : Int))) (by exact Nat.le_refl 2) rfl (local_W (freeze_ok _) hxok ⟨by omega, by omega⟩ ⟨by omega, by omega⟩ fun N18 e18 => ⟨e18.keepF _, _, rfl, _, rfl, rfl, fun b21 N22 hb21 hN22 => ⟨⟨rfl, rfl, by decide⟩, fun N23 hN23 => ?_⟩⟩)
            have h18 := Ext.thaw e18
            have h22 : Ext N11 N22 := h18.trans (Ext.push' hN22)
            have t18 := h18.size
            have t22 : N22.size = (N18.thaw N11.base).size + 1 := by rw [hN22]; rfl
            have h23 : Ext N11 N23 := hN23 ▸ h22.set (by omega) (by omega) _
            have hloc : locF x i c = ((i : Int) - x.t, (c : Int) - x.l) := by unfold locF; rw [if_pos hx]
            have hd := of_decide_eq_true hx
            obtain ⟨o1, o2, o3, o4⟩ := id hxok
            unfold I64 at o1 o2 o3 o4
            rw [hx, hloc]
            refine ⟨.bool false, rfl, wpIf.ff (LGet.mk (v := .int .i64 ((i : Int) - x.t)) rfl ?_)⟩
            refine rd_f (slL.ext (e011.trans h23)) (by omega) (by rw [Int.toNat_natCast]; exact hj) (f := 0) rfl fun _ _ => step_sub (by omega) (by omega) (s_neF (fun h => h rfl) (wpIf.ff (LGet.mk (v := .int .i64 ((c : Int) - x.l)) rfl ?_)))
            refine rd_f (slL.ext (e011.trans h23)) (by omega) (by rw [Int.toNat_natCast]; exact hj) (f := 1) rfl fun _ _ => step_sub (by omega) (by omega) (s_neF (fun h => h rfl) (wpIf.ff ?_))
            exact step_add (by omega) (by omega) ⟨C.toNat - (c + 1), by omega, c + 1, N23, rfl, e011.trans h23, by omega, rfl⟩
        · exact law26_PaneTells_l6_out (law26_PaneTells_c5_wp (step_add (by omega) (by omega) ⟨R.toNat - (i + 1), by omega, i + 1, N2, rfl, f2, by omega, rfl⟩))
      · exact law26_PaneTells_l4_out (law26_PaneTells_c2_wp (step_add (by omega) (by omega) ⟨4 - (n + 1), by omega, n + 1, N1, rfl, f1, by omega, rfl⟩))
  · refine blockK.hit (law26_PaneTells_c0_wp (step_conv (IntWalk.i64_in _ (by omega)) ?_))
    by_cases hst : screenF R C = true ∧ 1 ≤ y2 ∧ y2 < R
    · obtain ⟨t1, t2, t3⟩ := hst
      have not' : ¬ (screenF R C = false ∨ y2 < 1 ∨ y2 ≥ R) := by
        rintro (h | h | h)
        · rw [t1] at h; cases h
        · omega
        · omega
      refine stripes_W (freeze_ok _) (fun h => absurd h not') fun _ _ _ N3 v e3 m3 => ⟨e3.keepF _, step_conv (IntWalk.i64_in _ (by omega)) ?_⟩
      have e3' := Ext.thaw e3
      have f3 := eM.trans e3'
      have slv : Sl (N3.thaw M'.base) v _ := m3.sl
      refine rstripes_W (f3.ok k0) ⟨by omega, by omega⟩ ⟨by omega, by omega⟩ (fun h => absurd h not') fun _ _ _ N6 w e6 m6 => ⟨e6.keep _, ?_⟩
      have f6 := f3.trans e6
      have slw := m6.sl
      have slv := slv.ext e6
      have hlen : (stripesF C ((R - 1).toNat / y2.toNat) ((R - 1).toNat % y2.toNat) y2.toNat).length ≤ 15 := by simp [stripesF]; omega
      generalize stripesF C ((R - 1).toNat / y2.toNat) ((R - 1).toNat % y2.toNat) y2.toNat = S at slv slw hlen
      refine step_lenS slv (step_lenS slw (s_neF (fun h => h rfl) (wpIf.ff ?_)))
      refine ⟨law26_PaneTells_l8_m, t8I N6 R C v w (S).length b1 a b3 (.int .u16 y0) (.int .u16 y1) (.int .i8 y2), ⟨(S).length, 0, rfl, Nat.zero_le _, rfl⟩, ?_⟩
      rintro k s ⟨i, rfl, hi, rfl⟩
      refine law26_PaneTells_l8_wp (I := t8I N6 R C v w (S).length b1 a b3 (.int .u16 y0) (.int .u16 y1) (.int .i8 y2)) ?_
      refine step_lenS slw (step_lss (wpIf.dec (fun g => ?_) (fun g => ?_)))
      · obtain ⟨x, hx⟩ : ∃ x, (S)[i]? = some x := ⟨_, List.getElem?_eq_getElem (by omega)⟩
        refine rd slv (by omega) (by rw [Int.toNat_natCast]; exact hx) fun _ => rd slw (by omega) (by rw [Int.toNat_natCast]; exact hx) fun _ => s_rcSame (wpIf.ff ?_)
        exact step_add (by omega) (by omega) ⟨(S).length - (i + 1), by omega, i + 1, rfl, by omega, rfl⟩
      · refine blockK.hit (law26_PaneTells_c7_wp (step_conv (IntWalk.i64_in _ (by omega)) (step_mul (by omega) (by omega) ?_)))
        have kN := (f6).ok k0
        refine in_W (freeze_ok _) ha ⟨by omega, by omega⟩ ⟨by omega, by omega⟩ fun N4 e4 => ⟨e4.keepF _, ?_⟩
        have e4 := Ext.thaw e4
        refine rin_W (e4.ok kN) ha fun N6 e6 => ⟨e6.keep _, s_boolEq (wpIf.tt ?_)⟩
        have k6 := e6.ok (e4.ok kN)
        refine in_W (freeze_ok _) ha ⟨by omega, by omega⟩ ⟨by omega, by omega⟩ fun N9 e9 => ⟨e9.keepF _, ?_⟩
        have e9 := Ext.thaw e9
        refine rin_W (e9.ok k6) ha fun N11 e11 => ⟨e11.keep _, s_boolEq (wpIf.tt ?_)⟩
        have k11 := e11.ok (e9.ok k6)
        have hsc : screenF (y0 * 3) 600 = false := decide_eq_false (by omega)
        have hck : checkF (y0 * 3) 600 [] = 5 := by unfold checkF; rw [hsc]; rfl
        refine check_W k11 (Sl.nil _) (fun x hx => by simp at hx) (by simp) ⟨by omega, by omega⟩ ⟨by omega, by omega⟩ fun N14 e14 => ⟨e14.keep _, ?_⟩
        rw [hck]
        refine s_eqF (by omega) (rscreen_W (e14.ok k11) ⟨KeepB.refl _ _, ?_⟩)
        rw [hsc]
        exact s_boolEq (wpIf.tt (worksP_W ⟨KeepB.refl _ _, q _⟩))
    · have no : screenF R C = false ∨ y2 < 1 ∨ y2 ≥ R := by
        by_cases h1 : screenF R C = true
        · right
          by_cases h2 : y2 < 1
          · exact .inl h2
          · right
            by_cases h3 : y2 < R
            · exact absurd ⟨h1, by omega, h3⟩ hst
            · omega
        · left; simpa using h1
      have yes : ∀ {p : Prop}, screenF R C = true → 1 ≤ y2 → y2 < R → p := fun h1 h2 h3 => absurd ⟨h1, h2, h3⟩ hst
      refine stripes_W (freeze_ok _) (fun _ => ⟨(Ext.refl M'.freeze).keepF _, step_conv (IntWalk.i64_in _ (by omega)) ?_⟩) fun h1 h2 h3 => yes h1 h2 h3
      have e3' : Ext M' (M'.freeze.thaw M'.base) := Ext.thaw (Ext.refl M'.freeze)
      have f3 := eM.trans e3'
      refine rstripes_W (f3.ok k0) ⟨by omega, by omega⟩ ⟨by omega, by omega⟩ (fun _ => ⟨KeepB.refl _ _, ?_⟩) fun h1 h2 h3 => yes h1 h2 h3
      have slv : Sl (M'.freeze.thaw M'.base) (.slice none 0 0) ([] : List Rc) := Sl.nil _
      have hlen : ([] : List Rc).length ≤ 15 := by simp
      generalize M'.freeze.thaw M'.base = N6 at f3 slv ⊢
      generalize ([] : List Rc) = S at slv hlen
      refine step_lenS slv (step_lenS slv (s_neF (fun h => h rfl) (wpIf.ff ?_)))
      refine ⟨law26_PaneTells_l8_m, t8I N6 R C (.slice none 0 0) (.slice none 0 0) (S).length b1 a b3 (.int .u16 y0) (.int .u16 y1) (.int .i8 y2), ⟨(S).length, 0, rfl, Nat.zero_le _, rfl⟩, ?_⟩
      rintro k s ⟨i, rfl, hi, rfl⟩
      refine law26_PaneTells_l8_wp (I := t8I N6 R C (.slice none 0 0) (.slice none 0 0) (S).length b1 a b3 (.int .u16 y0) (.int .u16 y1) (.int .i8 y2)) ?_
      refine step_lenS slv (step_lss (wpIf.dec (fun g => ?_) (fun g => ?_)))
      · obtain ⟨x, hx⟩ : ∃ x, (S)[i]? = some x := ⟨_, List.getElem?_eq_getElem (by omega)⟩
        refine rd slv (by omega) (by rw [Int.toNat_natCast]; exact hx) fun _ => rd slv (by omega) (by rw [Int.toNat_natCast]; exact hx) fun _ => s_rcSame (wpIf.ff ?_)
        exact step_add (by omega) (by omega) ⟨(S).length - (i + 1), by omega, i + 1, rfl, by omega, rfl⟩
      · refine blockK.hit (law26_PaneTells_c7_wp (step_conv (IntWalk.i64_in _ (by omega)) (step_mul (by omega) (by omega) ?_)))
        have kN := (f3).ok k0
        refine in_W (freeze_ok _) ha ⟨by omega, by omega⟩ ⟨by omega, by omega⟩ fun N4 e4 => ⟨e4.keepF _, ?_⟩
        have e4 := Ext.thaw e4
        refine rin_W (e4.ok kN) ha fun N6 e6 => ⟨e6.keep _, s_boolEq (wpIf.tt ?_)⟩
        have k6 := e6.ok (e4.ok kN)
        refine in_W (freeze_ok _) ha ⟨by omega, by omega⟩ ⟨by omega, by omega⟩ fun N9 e9 => ⟨e9.keepF _, ?_⟩
        have e9 := Ext.thaw e9
        refine rin_W (e9.ok k6) ha fun N11 e11 => ⟨e11.keep _, s_boolEq (wpIf.tt ?_)⟩
        have k11 := e11.ok (e9.ok k6)
        have hsc : screenF (y0 * 3) 600 = false := decide_eq_false (by omega)
        have hck : checkF (y0 * 3) 600 [] = 5 := by unfold checkF; rw [hsc]; rfl
        refine check_W k11 (Sl.nil _) (fun x hx => by simp at hx) (by simp) ⟨by omega, by omega⟩ ⟨by omega, by omega⟩ fun N14 e14 => ⟨e14.keep _, ?_⟩
        rw [hck]
        refine s_eqF (by omega) (rscreen_W (e14.ok k11) ⟨KeepB.refl _ _, ?_⟩)
        rw [hsc]
        exact s_boolEq (wpIf.tt (worksP_W ⟨KeepB.refl _ _, q _⟩))
end
end Go.Proofs.Ytacabjkhhejjcaa.Run
