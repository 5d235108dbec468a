/- Chapter 30: compose.Only. -/
import Derived.Test.YtkelbhcaecojkaaScreen
import Derived.Test.YtkelbhcaecojkaaVcO
namespace Go.Proofs.Ytkelbhcaecojkaa.Run
open Go Go.RowKit
set_option linter.unusedVariables false
set_option linter.unusedSimpArgs false

section
variable {M : Mem} {Q : Value → Mem → Prop}
theorem pt_ld {M : Mem} {b : Nat} {c : List Value} {ty : TypeId} {w : Bool} {P : Value → Prop} {o : Nat} {x : Value} (h : M.get b = some (.cells c ty w)) (hx : c[o]? = some x) (p : P x) : ∃ v, opSem (.load none (.const (.pointer (some ⟨b, o, none⟩)))) [] M = some (v, M) ∧ P v := by
  refine ⟨x, ?_, p⟩
  simp only [opSem, ev, Mem.load1, h, hx, Option.map_some]
theorem flows0_W (hM : M.base ≤ M.size) {l : Int} (hl : l = 0 ∨ l = 1) (q : ∀ M', Ext M M' → Q (.bool (decide (l = 0))) M') : W funs known (.func (.func n_label_Flows) #[] #[]) [.int .u8 l, .int .u8 0] M Q := by
  obtain ⟨v, M2, h1, e2, s2⟩ := lit2 l 0 M
  refine label_Flows_wp hM ⟨v, M2, h1, join_W (e2.ok hM) s2 (by simp) fun b hb => ?_⟩
  refine step_lit [(⟨0⟩ : Lv)] rfl rfl fun v5 M6 e6 n6 => join_W (e6.ok (e2.ok hM)) n6.sl (by simp) fun b' hb' => ?_
  have hf : b' = false := by
    cases b' with
    | false => rfl
    | true =>
      obtain ⟨a, ha, h0⟩ := hb'.1 rfl
      rw [List.mem_singleton] at ha; subst ha; simp at h0
  subst hf
  have hb2 : b = decide (l = 1) := by
    rcases hl with rfl | rfl
    · cases b with
      | false => rfl
      | true =>
        obtain ⟨a, ha, h0⟩ := hb.1 rfl
        simp only [List.mem_cons, List.not_mem_nil, or_false] at ha
        rcases ha with rfl | rfl <;> simp at h0
    · exact hb.2 ⟨⟨1⟩, by simp, by decide⟩
  subst hb2
  refine step_eql ?_
  have : decide ((if decide (l = 1) = true then (1 : Int) else 0) = (if false = true then (1 : Int) else 0)) = decide (l = 0) := by
    rcases hl with rfl | rfl <;> rfl
  rw [this]
  exact q M6 (e2.trans e6)
theorem only1_W (hM : M.base ≤ M.size) {b : Nat} {ty : TypeId} {w : Bool} (hg : M.get b = some (.cells [.int .u8 0] ty w)) {x y : Int} {c : Ce} (hl : c.label = 0 ∨ c.label = 1) (q : ∀ M', Ext M M' → Q (onlyC c).val M') : W funs known (.func (.func n_compose_Only_1) #[] #[.pointer (some ⟨b, 0, none⟩)]) [.agg #[.int .i64 x, .int .i64 y], c.val] M Q := by
  refine compose_Only_1_wp hM ⟨rfl, fun b1 M2 hb1 hM2 => ⟨rfl, fun b3 M4 hb3 hM4 => ⟨rfl, fun b5 M6 hb5 hM6 => ?_⟩⟩⟩
  have e6 : Ext M M6 := ((Ext.push' hM2).trans (Ext.push' hM4)).trans (Ext.push' hM6)
  have s2 : M2.size = M.size + 1 := by rw [hM2]; rfl
  have s4 : M4.size = M2.size + 1 := by rw [hM4]; rfl
  have s6 : M6.size = M4.size + 1 := by rw [hM6]; rfl
  refine pt_ld (e6.same hg) rfl (flows0_W (e6.ok hM) hl fun M9 e9 => ⟨e9.keep _, _, rfl, ?_⟩)
  have s9 := e9.size
  have e09 := e6.trans e9
  by_cases h0 : c.label = 0
  · have hc : onlyC c = c := by unfold onlyC; rw [if_pos h0]
    rw [hc] at q
    rw [decide_eq_true h0]
    exact wpIf.ff ⟨⟨rfl, rfl, by decide⟩, fun M14 hM14 => q _ (hM14 ▸ e09.set (by omega) (by omega) _)⟩
  · have hc : onlyC c = { zeroC with label := c.label } := by unfold onlyC; rw [if_neg h0]
    rw [hc] at q
    rw [decide_eq_false h0]
    exact wpIf.tt ⟨({ zeroC with label := c.label } : Ce).val, rfl, ⟨rfl, rfl, by decide⟩, fun M12 hM12 => LGetN.as ({ zeroC with label := c.label } : Ce).val (by exact Nat.le_refl 14) rfl (q _ (hM12 ▸ e09.set (by omega) (by omega) _))⟩

abbrev eaI (M : Mem) (G : Gd) (f v : Value) : Nat → LS → Prop := fun k s => ∃ (i : Nat) (M' : Mem) (r : Value), s = compose_each_l1_s f r v (.int .i64 G.length) (.int .i64 i) [] M' ∧ Ext M M' ∧ GrN M M' r (onlyF (G.take i)) ∧ i ≤ G.length ∧ k = G.length - i
abbrev ecI (M' : Mem) (L : List Ce) (f r x v : Value) (i n : Nat) : Nat → LS → Prop := fun k s => ∃ (j : Nat) (N : Mem), s = compose_each_l4_s f r (.int .i64 i) x v (.int .i64 n) (.int .i64 i) (.int .i64 L.length) (.int .i64 j) [] N ∧ Ext M' N ∧ New 53 M' N x ((L.take j).map onlyC ++ L.drop j) ∧ j ≤ L.length ∧ k = L.length - j
theorem each_W (hM : M.base ≤ M.size) {b : Nat} {ty : TypeId} {w : Bool} (hg : M.get b = some (.cells [.int .u8 0] ty w)) {v : Value} {G : Gd} (h : Gr M v G) (hn : G.length ≤ 2 ^ 19) (hl : ∀ L ∈ G, L.length ≤ 2 ^ 30) (lb : LbG G) (q : ∀ M' r, Ext M M' → GrN M M' r (onlyF G) → Q r M') : W funs known (.func (.func n_compose_each) #[] #[]) [v, .func (.func n_compose_Only_1) #[] #[.pointer (some ⟨b, 0, none⟩)]] M Q := by
  obtain ⟨ad, cap, hv⟩ := h.shape
  subst hv
  refine compose_each_wp hM (step_len ?_)
  generalize hv : Value.slice ad G.length cap = v at *
  generalize hf : Value.func (Fn.func n_compose_Only_1) #[] #[.pointer (some ⟨b, 0, none⟩)] = f at *
  refine ⟨compose_each_l1_m, eaI M G f v, ⟨G.length, 0, M, .slice none 0 0, rfl, Ext.refl _, ⟨[], .inr ⟨rfl, rfl⟩, by simp, rfl⟩, Nat.zero_le _, rfl⟩, ?_⟩
  rintro k s ⟨i, M', r, rfl, eM, gM0, hi, rfl⟩
  have gM : GrN M M' r (onlyF (G.take i)) := gM0
  clear gM0
  refine compose_each_l1_wp (I := eaI M G f v) (step_lss (wpIf.dec (fun g1 => ?_) (fun g1 => ?_)))
  rotate_left
  · have : i = G.length := by omega
    subst this
    rw [List.take_length] at gM
    exact blockK.hit (compose_each_c0_wp (q M' r eM gM))
  obtain ⟨L, hL⟩ : ∃ L, G[i]? = some L := ⟨_, List.getElem?_eq_getElem (by omega)⟩
  have hLl := hl L (List.mem_of_getElem? hL)
  have hLb := lb L (List.mem_of_getElem? hL)
  have kM := eM.ok hM
  refine rdG (h.ext eM) (by omega) (by rw [Int.toNat_natCast]; exact hL) fun _ x sx => ?_
  refine break_W (A := []) kM sx (Sl.nil _) hLl (by simp) fun M5 r4 e5 n5 => ?_
  have n5 : New 53 M' M5 r4 L := n5
  refine step_lenS n5.sl ?_
  refine ⟨compose_each_l4_m, ecI M' L f r r4 v i G.length, ⟨L.length, 0, M5, rfl, e5, by simpa using n5, Nat.zero_le _, rfl⟩, ?_⟩
  clear n5 e5
  rintro k s ⟨j, N, rfl, eN, nN, hj, rfl⟩
  refine compose_each_l4_wp (I := ecI M' L f r r4 v i G.length) (step_lss (wpIf.dec (fun g2 => ?_) (fun g2 => ?_)))
  · obtain ⟨c, hc⟩ : ∃ c, L[j]? = some c := ⟨_, List.getElem?_eq_getElem (by omega)⟩
    have hlen : ((L.take j).map onlyC ++ L.drop j).length = L.length := by simp only [List.length_append, List.length_map, List.length_take, List.length_drop]; omega
    have hcj : ((L.take j).map onlyC ++ L.drop j)[j]? = some c := by
      rw [List.getElem?_append_right (by simp; omega)]
      simp only [List.length_map, List.length_take, List.getElem?_drop]
      rw [show j + (j - min j L.length) = j by omega]; exact hc
    refine ⟨.agg #[.int .i64 (i : Int), .int .i64 (j : Int)], rfl, ?_⟩
    refine rd nN.sl (by omega) (by rw [Int.toNat_natCast]; exact hcj) fun _ => ?_
    rw [← hf]
    refine only1_W (eN.ok kM) (eN.same (eM.same hg)) (hLb c (List.mem_of_getElem? hc)) fun M6 e6 => ?_
    rw [hf]
    refine wr (eN.trans e6) kM (nN.ext e6) (onlyC c) (i := j) hcj rfl fun _ M9 e9 n9 => step_add (by omega) (by omega) ⟨L.length - (j + 1), by omega, j + 1, M9, rfl, e9, ?_, by omega, rfl⟩
    have : ((L.take j).map onlyC ++ L.drop j).set j (onlyC c) = (L.take (j + 1)).map onlyC ++ L.drop (j + 1) := by
      obtain ⟨h1, h2⟩ := List.getElem?_eq_some_iff.1 hc
      rw [List.take_succ_eq_append_getElem h1, h2, List.map_append, List.drop_eq_getElem_cons h1, h2, List.set_append_right _ _ (by simp; omega)]
      simp only [List.length_map, List.length_take]
      rw [show j - min j L.length = 0 by omega]
      simp
    rw [← this]; exact n9
  · have : j = L.length := by omega
    subst this
    rw [List.take_length, List.drop_length, List.append_nil] at nN
    obtain ⟨l, M6, hl6, e6, v7, M8, ha, e8, g8, _⟩ := appG (bytes := 24) (z := .slice none 0 0) (eM.trans eN) hM (gM.ext eN) (.inl (New.old eM nN)) (by simp [onlyF]; omega) (by decide)
    refine blockK.hit (compose_each_c3_wp (ar := none) ⟨l, M6, hl6, v7, M8, ha, blockK.n (seqK.n (compose_each_c2_wp (step_add (by omega) (by omega) ⟨G.length - (i + 1), by omega, i + 1, M8, v7, rfl, e8, ?_, by omega, rfl⟩)))⟩)
    have : onlyF (G.take (i + 1)) = onlyF (G.take i) ++ [L.map onlyC] := by
      obtain ⟨h1, h2⟩ := List.getElem?_eq_some_iff.1 hL
      unfold onlyF
      rw [List.take_succ_eq_append_getElem h1, h2, List.map_append]; rfl
    rw [this]; exact g8
theorem only_W (hM : M.base ≤ M.size) {v : Value} {G : Gd} (h : Gr M v G) (hn : G.length ≤ 2 ^ 19) (hl : ∀ L ∈ G, L.length ≤ 2 ^ 30) (lb : LbG G) (q : ∀ M' r, Ext M M' → GrN M M' r (onlyF G) → Q r M') : W funs known (.func (.func n_compose_Only) #[] #[]) [v, .int .u8 0] M Q := by
  obtain ⟨ad, cap, hv⟩ := h.shape
  subst hv
  refine compose_Only_wp hM ⟨rfl, fun b1 M2 hb1 hM2 => ?_⟩
  have e2 : Ext M M2 := Ext.push' hM2
  exact each_W (e2.ok hM) (b := b1) (ty := 51) (w := true) (by rw [hM2, Mem.get_push, if_pos hb1]) (h.ext e2) hn hl lb fun M4 r e4 g4 => ⟨e4.keep _, q M4 r (e2.trans e4) (g4.old e2)⟩
end
end Go.Proofs.Ytkelbhcaecojkaa.Run
