/- The law PaneMoves: run on whatever it is given, it answers true. -/
import Derived.Test.YtacabjkhhejjcaaPaneE
namespace Go.Proofs.Ytacabjkhhejjcaa.Run
open Go Go.RowKit
set_option linter.unusedVariables false
set_option linter.unusedSimpArgs false

theorem splice_mid (A e B : List Value) {f : Nat} (x : Value) (hf : f < e.length) : splice (A ++ (e ++ B)) (A.length + f) [x] = A ++ (splice e f [x] ++ B) := by
  unfold splice
  rw [List.take_append, List.take_of_length_le (by omega), Nat.add_sub_cancel_left, List.take_append, List.drop_append, List.drop_of_length_le (by simp only [List.length_singleton]; omega), List.drop_append]
  have h1 : f - e.length = 0 := by omega
  have h2 : A.length + f + [x].length - A.length = f + 1 := by simp only [List.length_singleton]; omega
  have h3 : f + 1 - e.length = 0 := by omega
  rw [h1, h2, h3]
  simp

section
variable {α : Type} [E : Enc α]
theorem flat_put {L : List α} {i : Nat} {a a' : α} (h : L[i]? = some a) {f : Nat} (hf : f < E.k) {x : Value} (hx : splice (E.enc a) f [x] = E.enc a') : splice (flat L) (i * E.k + f) [x] = flat (L.set i a') := by
  obtain ⟨hi, rfl⟩ := List.getElem?_eq_some_iff.1 h
  have h1 : flat L = flat (L.take i) ++ (E.enc L[i] ++ flat (L.drop (i + 1))) := by
    conv => lhs; rw [← List.take_append_drop i L, List.drop_eq_getElem_cons hi]
    rw [flat_append, flat_cons]
  have h2 : i * E.k = (flat (L.take i)).length := by rw [flat_len, List.length_take, Nat.min_eq_left (by omega)]
  rw [h1, h2, splice_mid _ _ _ _ (by rw [E.len]; exact hf), hx, List.set_eq_take_append_cons_drop, if_pos hi, flat_append, flat_cons]

/-- A field of one of a row of one's own is set. -/
theorem New.put {ty : TypeId} {M₀ M : Mem} (e : Ext M₀ M) (hb : M₀.base ≤ M₀.size) {v : Value} {L : List α} (h : New ty M₀ M v L) {i : Nat} {a a' : α} (hi : L[i]? = some a) {f : Nat} (hf : f < E.k) {x : Value} (hx : splice (E.enc a) f [x] = E.enc a') (hx1 : x.cells.toList = [x]) (hx2 : notTup x = true) {j : IntKind} :
    ∃ p, opSem (.addrL E.k (.const v) (.const (.int j (i : Int)))) [] M = some (p, M) ∧ ∃ q, opSem (.fieldAddr f (.const p)) [] M = some (q, M) ∧ ∃ u M', opSem (.store 1 (.const q) (.const x)) [] M = some (u, M') ∧ Ext M₀ M' ∧ New ty M₀ M' v (L.set i a') := by
  obtain ⟨b, sp, rfl, h1, h2⟩ := h
  have hlt := (List.getElem?_eq_some_iff.1 hi).1
  have hbs := Mem.lt_of_get h1
  have eb := e.base
  refine ⟨.pointer (some ⟨b, 0 + i * E.k, none⟩), ?_, .pointer (some ⟨b, 0 + i * E.k + f, none⟩), rfl, undef, M.set b (.cells (flat (L.set i a')) ty true), ?_, e.set h2 hbs _, b, sp, by rw [List.length_set], by rw [Mem.get_set _ _ _ hbs, if_pos rfl], h2⟩
  · simp only [opSem, ev]
    rw [if_pos ⟨by omega, by omega⟩, Int.toNat_natCast]
  · have hsz : x.cells.size = 1 := by have := congrArg List.length hx1; simpa using this
    have : M.storeQ b (0 + i * E.k + f) [x] = some (M.set b (.cells (flat (L.set i a')) ty true)) := by
      have hb2 : 0 + i * E.k + f + [x].length ≤ (flat L).length := by
        rw [flat_len, List.length_singleton]
        have : (i + 1) * E.k ≤ L.length * E.k := Nat.mul_le_mul_right _ (by omega)
        rw [Nat.add_mul] at this
        omega
      simp only [Mem.storeQ, Mem.storeN, h1]
      rw [if_pos ⟨by omega, hb2⟩, Nat.zero_add, flat_put hi hf hx]
    simp only [opSem, ev, hsz, hx2, hx1, and_self, if_true, this, Option.map_some]
end

/-! ### What is so of panes -/

theorem check0 {R C : Int} {L : List Rc} : checkF R C L = 0 ↔ screenF R C = true ∧ (∀ a ∈ L, inF R C a = true) ∧ apartF L = true := by
  unfold checkF
  rw [← List.all_eq_true]
  cases screenF R C <;> cases L.all (inF R C) <;> cases apartF L <;> simp

/-- one of them, made smaller -/
def Rc.less (a : Rc) : Rc := ⟨a.t + a.r - 1, a.l, 1, 1⟩

theorem less_in {R C : Int} {a : Rc} (h : inF R C a = true) : inF R C a.less = true := by
  have h := of_decide_eq_true h
  exact decide_eq_true (by unfold Rc.less; simp only; omega)
theorem less_meet {R C : Int} {a b : Rc} (ha : inF R C a = true) (h : meetF a.less b = true) : meetF a b = true := by
  have ha := of_decide_eq_true ha
  unfold meetF spanF Rc.less at h
  unfold meetF spanF
  simp only [Bool.and_eq_true, decide_eq_true_iff] at h ⊢
  omega
theorem meet_comm (a b : Rc) : meetF a b = meetF b a := by
  unfold meetF spanF
  congr 1 <;> exact decide_eq_decide.2 (by omega)
theorem less_self {R C : Int} {a : Rc} (ha : inF R C a = true) : meetF a.less a = true := by
  have ha := of_decide_eq_true ha
  unfold meetF spanF Rc.less
  simp only [Bool.and_eq_true, decide_eq_true_iff]
  omega

theorem check_fewer {R C : Int} {G : List Rc} (h : checkF R C G = 0) (i : Nat) : checkF R C (G.take i ++ G.drop (i + 1)) = 0 := by
  obtain ⟨h1, h2, h3⟩ := check0.1 h
  rw [← List.eraseIdx_eq_take_drop_succ]
  have hs := List.eraseIdx_sublist G i
  refine check0.2 ⟨h1, fun a ha => h2 a (hs.subset ha), ?_⟩
  exact decide_eq_true ((of_decide_eq_true h3).sublist hs)
theorem check_less {R C : Int} {G : List Rc} (h : checkF R C G = 0) {i : Nat} {a : Rc} (ha : G[i]? = some a) : checkF R C (G.set i a.less) = 0 := by
  obtain ⟨h1, h2, h3⟩ := check0.1 h
  have hin := h2 a (List.mem_of_getElem? ha)
  refine check0.2 ⟨h1, fun c hc => ?_, apartF_iff.2 fun x y c d hx hy hlt => ?_⟩
  · rcases List.mem_or_eq_of_mem_set hc with hc | rfl
    · exact h2 c hc
    · exact less_in hin
  · rw [List.getElem?_set] at hx hy
    have hk := apartF_iff.1 h3
    have key : ∀ y d, G[y]? = some d → y ≠ i → meetF a.less d = false := by
      intro y d hy hne
      apply Bool.eq_false_iff.2
      intro hm
      have hm := less_meet hin hm
      rcases Nat.lt_or_gt_of_ne hne with hl | hl
      · rw [hk i y a d ha hy hl] at hm; cases hm
      · rw [meet_comm, hk y i d a hy ha hl] at hm; cases hm
    split at hx
    · rename_i hix
      subst hix
      split at hx
      · cases hx
        rw [if_neg (by omega)] at hy
        exact key y d hy (by omega)
      · cases hx
    · split at hy
      · rename_i hiy
        subst hiy
        split at hy
        · cases hy
          rw [meet_comm]
          exact key x c hx (by omega)
        · cases hy
      · exact hk x y c d hx hy hlt
theorem apart_twice {R C : Int} {G : List Rc} (h : checkF R C G = 0) {i : Nat} {a : Rc} (ha : G[i]? = some a) : apartF (G ++ [a.less]) = false := by
  obtain ⟨h1, h2, h3⟩ := check0.1 h
  apply Bool.eq_false_iff.2
  intro hc
  have hlt := (List.getElem?_eq_some_iff.1 ha).1
  have := apartF_iff.1 hc G.length i a.less a (by rw [List.getElem?_append_right (Nat.le_refl _), Nat.sub_self]; rfl) (by rw [List.getElem?_append_left hlt]; exact ha) hlt
  rw [less_self (h2 a (List.mem_of_getElem? ha))] at this
  cases this
theorem check_twice {R C : Int} {G : List Rc} (h : checkF R C G = 0) {i : Nat} {a : Rc} (ha : G[i]? = some a) : checkF R C (G ++ [a.less]) = 8 := by
  have h0 := apart_twice h ha
  obtain ⟨h1, h2, h3⟩ := check0.1 h
  unfold checkF
  rw [h1, h0, Bool.and_false]; rfl
theorem check_more {R C : Int} {G : List Rc} (h : checkF R C G = 0) (hR : R ≤ 100) (hC : C ≤ 100) : checkF (R + 3) (C + 2) G = 0 := by
  obtain ⟨h1, h2, h3⟩ := check0.1 h
  have hs := of_decide_eq_true h1
  refine check0.2 ⟨decide_eq_true (by omega), fun a ha => ?_, h3⟩
  have := of_decide_eq_true (h2 a ha)
  exact decide_eq_true (by omega)

theorem keep1 {M₀ M M' : Mem} {b : Nat} (hb : b < M₀.size) (e : Ext M₀ M) (e' : Ext M₀ M') : KeepB [b] M M' := by
  intro c hc _
  rw [List.mem_singleton] at hc
  subst hc
  rw [e.get _ hb, e'.get _ hb]

section
variable {Q : Value → Mem → Prop}
theorem works_W {M : Mem} (h : Q (.bool true) M) : W funs known (.func (.func n_law26_works) #[] #[]) [] M Q := W_known rfl h

abbrev mvI (M : Mem) (R C : Int) (G : List Rc) (o : Value) (b1 : Nat) (y0 y1 y2 : Int) : Nat → LS → Prop := fun k s => ∃ (i : Nat) (M' : Mem), s = law26_PaneMoves_l1_s (.int .i64 R) (.int .i64 C) o (.int .i64 i) b1 (.int .u16 y0) (.int .u16 y1) (.int .i8 y2) [] M' ∧ Ext M M' ∧ i ≤ G.length ∧ k = G.length - i

set_option maxHeartbeats 2000000 in
theorem moves_W {M : Mem} (hM : M.base ≤ M.size) {v : Value} {L : List Dr} (h : Sl M v L) (hok : ∀ a ∈ L, a.ok) {y0 y1 y2 : Int} (hy0 : 0 ≤ y0 ∧ y0 ≤ 65535) (hy1 : 0 ≤ y1 ∧ y1 ≤ 65535) (q : ∀ M', Q (.bool true) M') :
    W funs known (.func (.func n_law26_PaneMoves) #[] #[]) [v, .agg #[.int .u16 y0, .int .u16 y1, .int .i8 y2]] M Q := by
  obtain ⟨ad, cap, rfl, hcap, hs⟩ := id h
  refine law26_PaneMoves_wp hM ⟨rfl, fun b1 M2 hb1 hM2 => works_W ⟨KeepB.refl _ _, _, rfl, wpIf.ff ?_⟩⟩
  have e2 : Ext M M2 := Ext.push' hM2
  have s2 : M2.size = M.size + 1 := by rw [hM2]; rfl
  have hb2 : b1 < M2.size := by omega
  obtain ⟨R, hR, hR2⟩ : ∃ R : Int, R = 2 + y0 % 14 ∧ 2 ≤ R ∧ R ≤ 15 := ⟨_, rfl, by omega, by omega⟩
  obtain ⟨C, hC, hC2⟩ : ∃ C : Int, C = 1 + y1 % 16 ∧ 1 ≤ C ∧ C ≤ 16 := ⟨_, rfl, by omega, by omega⟩
  refine step_rem16 (by decide) hy0.1 (step_conv (i64_ok (by omega) (by omega)) (step_add (by omega) (by omega) ?_))
  refine step_rem16 (by decide) hy1.1 (step_conv (i64_ok (by omega) (by omega)) (step_add (by omega) (by omega) ?_))
  rw [← hR, ← hC]
  refine drawn_W (e2.ok hM) (h.ext e2) hok fun M13 o13 D e13 m13 hsm hD => ⟨e13.keep _, ?_⟩
  have hDok : ∀ a ∈ D, a.ok := fun a ha => (hsm a ha).ok
  have k13 := e13.ok (e2.ok hM)
  obtain ⟨ad13, cap13, rfl, _⟩ := id m13.sl
  refine kept_W k13 m13.sl hDok (by omega) fun M15 o G e15 m15 hGD hGl hG => ⟨e15.keep _, ?_⟩
  have hGok : ∀ a ∈ G, a.ok := fun a ha => hDok a (hGD a ha)
  have hG0 := hG (decide_eq_true (by omega))
  have k15 := e15.ok k13
  have slo := m15.sl
  clear m15 m13
  have eb : Ext M2 M15 := e13.trans e15
  refine step_add (by omega) (by omega) (step_add (by omega) (by omega) ?_)
  obtain ⟨ado, capo, rfl, _⟩ := id slo
  refine check_W k15 slo hGok (by omega) ⟨by omega, by omega⟩ ⟨by omega, by omega⟩ fun M19 e19 => ⟨e19.keep _, ?_⟩
  rw [check_more hG0 (by omega) (by omega)]
  refine step_neq (wpIf.dec (fun hc => absurd rfl hc) (fun _ => ?_))
  have k19 := e19.ok k15
  have hb19 : b1 < M19.size := by have := eb.size; have := e19.size; omega
  have slo19 := slo.ext e19
  refine ⟨law26_PaneMoves_l1_m, mvI M19 R C G (.slice ado G.length capo) b1 y0 y1 y2, ⟨G.length, 0, M19, rfl, Ext.refl _, Nat.zero_le _, rfl⟩, ?_⟩
  rintro k s ⟨i, M1, rfl, eM, hi, rfl⟩
  refine law26_PaneMoves_l1_wp (I := mvI M19 R C G (.slice ado G.length capo) b1 y0 y1 y2) (step_len ?_)
  refine step_lss (wpIf.dec (fun h1 => ?_) (fun h1 => ?_))
  rotate_left
  · exact blockK.hit (law26_PaneMoves_c0_wp (q M1))
  · have hlt : i < G.length := by omega
    have hne : G ≠ [] := by rintro rfl; simp at hlt
    obtain ⟨a, ha⟩ : ∃ a, G[i]? = some a := ⟨_, List.getElem?_eq_getElem hlt⟩
    have k1 := eM.ok k19
    have b1l : b1 < M1.size := by have := eM.size; omega
    have sl1 := slo19.ext eM
    refine ⟨.slice (some ⟨M1.size, 0, some 0⟩) 0 0, M1.push (.cells [] 34 true), rfl, (Ext.push _ _).keep _, ?_⟩
    have e4 : Ext M1 (M1.push (.cells [] 34 true)) := Ext.push _ _
    have g4 : (M1.push (.cells [] 34 true)).get M1.size = some (.cells [] 34 true) := by rw [Mem.get_push]; exact if_pos rfl
    generalize M1.push (.cells [] 34 true) = M4 at e4 g4 ⊢
    obtain ⟨v5, h5, sl5⟩ := (sl1.ext e4).take (i := i) (by omega) hne (j := .i64) M4
    obtain ⟨v6, M7, h6, e7, n7⟩ := copy_x (M := M4) (M₀ := M1) (b := M1.size) (Nat.le_refl _) e4.size g4 sl5.srcs (by rw [List.length_take]; omega)
    refine ⟨v5, h5, v6, M7, h6, e7.keep _, step_add (by omega) (by omega) ?_⟩
    have e17 := e4.trans e7
    obtain ⟨v9, h9, sr9⟩ := (sl1.ext e17).rest (i := i + 1) (by omega) hne (j := .i64) M7
    obtain ⟨v10, M11, h10, e11, m11, _⟩ := append_ok (ty := 34) (bytes := 32) e17 k1 (.inl n7) sr9 (by rw [List.length_take, List.length_drop]; omega) (by rw [List.length_take, List.length_drop]; omega)
    refine ⟨v9, h9, v10, M11, h10, keep1 b1l e17 e11, ?_⟩
    have k11 := e11.ok k1
    have b11 : b1 < M11.size := by have := e11.size; omega
    have sl10 := m11.sl
    clear m11 h10 h9 sr9 n7 h6 h5
    refine ⟨.slice (some ⟨M11.size, 0, some 0⟩) 0 0, M11.push (.cells [] 34 true), rfl, (Ext.push _ _).keep _, ?_⟩
    have e13' : Ext M11 (M11.push (.cells [] 34 true)) := Ext.push _ _
    have g13 : (M11.push (.cells [] 34 true)).get M11.size = some (.cells [] 34 true) := by rw [Mem.get_push]; exact if_pos rfl
    generalize M11.push (.cells [] 34 true) = N13 at e13' g13 ⊢
    obtain ⟨v14, N15, h14, e15', n15⟩ := copy_x (M := N13) (M₀ := M11) (b := M11.size) (Nat.le_refl _) e13'.size g13 (sl1.ext (e11.trans e13')).srcs (by omega)
    refine ⟨v14, N15, h14, e15'.keep _, ?_⟩
    have f15 := e13'.trans e15'
    obtain ⟨p1, hp1, q1, hq1, u1, N19, hs1, f19, n19⟩ := n15.put f15 k11 ha (f := 2) (by decide) (x := .int .i64 1) (a' := ⟨a.t, a.l, 1, a.c⟩) rfl rfl rfl (j := .i64)
    refine ⟨p1, hp1, q1, hq1, u1, N19, hs1, keep1 b11 f15 f19, ?_⟩
    have ha1 : (G.set i (⟨a.t, a.l, 1, a.c⟩ : Rc))[i]? = some ⟨a.t, a.l, 1, a.c⟩ := by rw [List.getElem?_set_self hlt]
    obtain ⟨p2, hp2, q2, hq2, u2, N23, hs2, f23, n23⟩ := n19.put f19 k11 ha1 (f := 3) (by decide) (x := .int .i64 1) (a' := ⟨a.t, a.l, 1, 1⟩) rfl rfl rfl (j := .i64)
    rw [List.set_set] at n23
    have slx := sl1.ext (e11.trans f23)
    obtain ⟨p3, hp3, hat3⟩ := slx.addrN ha (j := .i64) N23
    obtain ⟨q3, hq3, ld3⟩ := hat3.field 0 (v := .int .i64 a.t) rfl N23
    obtain ⟨q4, hq4, ld4⟩ := hat3.field 2 (v := .int .i64 a.r) rfl N23
    have hmem := List.mem_of_getElem? ha
    obtain ⟨b1', b2', b3', b4'⟩ := hsm a (hGD a hmem)
    refine ⟨p2, hp2, q2, hq2, u2, N23, hs2, keep1 b11 f19 f23, p3, hp3, q3, hq3, _, ld3, p3, hp3, q4, hq4, _, ld4, step_add (by omega) (by omega) (step_sub (by omega) (by omega) ?_)⟩
    have ha2 : (G.set i (⟨a.t, a.l, 1, 1⟩ : Rc))[i]? = some ⟨a.t, a.l, 1, 1⟩ := by rw [List.getElem?_set_self hlt]
    obtain ⟨p5, hp5, q5, hq5, u5, N35, hs5, f35, n35⟩ := n23.put f23 k11 ha2 (f := 0) (by decide) (x := .int .i64 (a.t + a.r - 1)) (a' := a.less) rfl rfl rfl (j := .i64)
    rw [List.set_set] at n35
    refine ⟨p5, hp5, q5, hq5, u5, N35, hs5, keep1 b11 f23 f35, ?_⟩
    clear hs5 hq5 hp5 hs2 hq2 hp2 hs1 hq1 hp1 n23 n19 n15
    have k35 := f35.ok k11
    have b35 : b1 < N35.size := by have := f35.size; omega
    have slo35 := sl1.ext (e11.trans f35)
    have e4 : Ext N35 ((N35.freeze.push (.cells [] 34 true)).thaw N35.base) := Ext.thaw (Ext.push N35.freeze _)
    have g4 : ((N35.freeze.push (.cells [] 34 true)).thaw N35.base).freeze.get N35.size = some (.cells [] 34 true) := by
      show (N35.freeze.push (.cells [] 34 true)).get N35.size = _
      rw [Mem.get_push]; exact if_pos rfl
    refine ⟨.slice (some ⟨N35.size, 0, some 0⟩) 0 0, N35.freeze.push (.cells [] 34 true), rfl, (Ext.push N35.freeze _).keepF _, ?_⟩
    generalize (N35.freeze.push (.cells [] 34 true)).thaw N35.base = P at e4 g4 ⊢
    have hPb : P.base = N35.base := e4.base
    obtain ⟨v38, M39, h38, e39, n39⟩ := copy_x (M := P.freeze) (M₀ := N35) (b := N35.size) (Nat.le_refl _) e4.size g4 ((slo35.ext e4).freeze).srcs (by omega)
    refine ⟨v38, M39, h38, e39.keepF _, ?_⟩
    have eQ : Ext P (M39.thaw N35.base) := hPb ▸ Ext.thaw e39
    have nQ : New 34 N35 (M39.thaw N35.base) v38 G := n39
    generalize M39.thaw N35.base = P2 at eQ nQ ⊢
    have eP2 : Ext N35 P2 := e4.trans eQ
    have ha3 : (G.set i a.less)[i]? = some a.less := by rw [List.getElem?_set_self hlt]
    obtain ⟨p6, hp6, hat6⟩ := (n35.sl.ext eP2).addrN ha3 (j := .i64) P2
    obtain ⟨v42, M43, h42, e43, sl43⟩ := lit1 a.less P2.freeze
    refine ⟨p6, hp6, _, hat6.load, v42, M43, h42, e43.keepF _, ?_⟩
    have eR : Ext P2 (M43.thaw N35.base) := eP2.base ▸ Ext.thaw e43
    have slR : Sl (M43.thaw N35.base) v42 [a.less] := sl43
    generalize M43.thaw N35.base = P3 at eR slR ⊢
    have eP3 : Ext N35 P3 := eP2.trans eR
    obtain ⟨v44, M45, h44, e45, m45, _⟩ := append_ok (ty := 34) (bytes := 32) eP3 k35 (.inl (nQ.ext eR)) slR.srcs (by simp only [List.length_singleton]; omega) (by simp only [List.length_singleton]; omega)
    refine ⟨v44, M45, h44, keep1 b35 eP3 e45, ?_⟩
    have k45 := e45.ok k35
    have hlessok : a.less.ok := by unfold Rc.less Rc.ok I64; simp only; omega
    have sl44 := m45.sl
    clear m45 nQ n39 h44 h42 h38
    refine check_W k45 ((sl10.ext f35).ext e45) (fun c hc => hGok c (by rcases List.mem_append.1 hc with hc | hc; exact List.mem_of_mem_take hc; exact List.mem_of_mem_drop hc)) (by rw [List.length_append, List.length_take, List.length_drop]; omega) ⟨by omega, by omega⟩ ⟨by omega, by omega⟩ fun M47 e47 => ⟨e47.keep _, ?_⟩
    rw [check_fewer hG0]
    refine step_neq (wpIf.dec (fun hc => absurd rfl hc) (fun _ => ?_))
    have k47 := e47.ok k45
    refine check_W k47 (((n35.sl).ext e45).ext e47) (fun c hc => by rcases List.mem_or_eq_of_mem_set hc with hc | rfl; exact hGok c hc; exact hlessok) (by rw [List.length_set]; omega) ⟨by omega, by omega⟩ ⟨by omega, by omega⟩ fun M50 e50 => ⟨e50.keep _, ?_⟩
    rw [check_less hG0 ha]
    refine step_neq (wpIf.dec (fun hc => absurd rfl hc) (fun _ => ?_))
    have k50 := e50.ok k47
    have hok44 : ∀ c ∈ G ++ [a.less], c.ok := fun c hc => by
      rcases List.mem_append.1 hc with hc | hc
      · exact hGok c hc
      · rw [List.mem_singleton] at hc; exact hc ▸ hlessok
    refine check_W k50 ((sl44.ext e47).ext e50) hok44 (by rw [List.length_append, List.length_singleton]; omega) ⟨by omega, by omega⟩ ⟨by omega, by omega⟩ fun M53 e53 => ⟨e53.keep _, ?_⟩
    rw [check_twice hG0 ha]
    refine step_neq (wpIf.dec (fun hc => absurd rfl hc) (fun _ => ?_))
    have k53 := e53.ok k50
    refine apart_W k53 (((sl44.ext e47).ext e50).ext e53) hok44 (by rw [List.length_append, List.length_singleton]; omega) fun M56 e56 => ⟨e56.keep _, ?_⟩
    rw [apart_twice hG0 ha]
    refine wpIf.ff (step_add (by omega) (by omega) ⟨G.length - (i + 1), by omega, i + 1, M56, rfl, ?_, by omega, rfl⟩)
    exact (((((((eM.trans e11).trans f35).trans e45).trans e47).trans e50).trans e53).trans e56)
end
end Go.Proofs.Ytacabjkhhejjcaa.Run
