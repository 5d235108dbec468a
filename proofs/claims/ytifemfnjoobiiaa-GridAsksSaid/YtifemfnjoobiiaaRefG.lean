/- The document's grids: new ones, drafts of them, rows that are set, steps. -/
import Derived.Test.YtifemfnjoobiiaaGridC
import Derived.Test.YtifemfnjoobiiaaRowPB
import Derived.Test.YtifemfnjoobiiaaVcE
namespace Go.Proofs.Ytifemfnjoobiiaa.Run
open Go Go.RowKit
set_option linter.unusedVariables false
set_option linter.unusedSimpArgs false
def Gr2 (M₀ M₁ M : Mem) (v : Value) (G : Gd) : Prop := ∃ P : Parts, Mine 26 M₁ M v P.row ∧ (∀ p ∈ P, Mine 42 M₀ M p.1 p.2) ∧ P.map (·.2) = G
section
variable {M₀ M₁ M M' : Mem} {v : Value} {G : Gd}
theorem Gr2.ext (e : Ext M M') (h : Gr2 M₀ M₁ M v G) : Gr2 M₀ M₁ M' v G := by
 obtain ⟨P, h1, h2, h3⟩ := h
 exact ⟨P, h1.ext e, fun p hp => (h2 p hp).ext e, h3⟩
theorem Gr2.grN (e : Ext M₀ M₁) (h : Gr2 M₀ M₁ M v G) : GrN M₀ M v G := by
 obtain ⟨P, h1, h2, h3⟩ := h
 exact ⟨P, h1.old e, h2, h3⟩
theorem Gr2.nil : Gr2 M₀ M₁ M (.slice none 0 0) [] := ⟨[], .inr ⟨rfl, rfl⟩, by simp, rfl⟩
theorem Gr2.box (h : Gr2 M₀ M₁ M v G) {b : Nat} {c : List Value} {ty : TypeId} {w : Bool} (g : M.get b = some (.cells c ty w)) (n1 : ty ≠ 26) (n2 : ty ≠ 42) (o : AObj) : Gr2 M₀ M₁ (M.set b o) v G := by
 obtain ⟨P, h1, h2, h3⟩ := h
 have t : Touch (fun x => x = b) M (M.set b o) := Touch.set (p := fun x => x = b) (Touch.refl _ M) rfl (Mem.lt_of_get g) _
 have hk : ∀ {ty' : TypeId}, ty ≠ ty' → ∀ x, x = b → ∀ y w', M.get x ≠ some (.cells y ty' w') := fun {ty'} hne x hx y w' hy => by
  rw [hx, g] at hy
  exact hne (AObj.cells.inj (Option.some.inj hy)).2.1
 exact ⟨P, h1.imp (fun h => h.touch t (hk n1)) id, fun p hp => (h2 p hp).imp (fun h => h.touch t (hk n2)) id, h3⟩
theorem Gr2.ne (h : Gr2 M₀ M₁ M v G) {b : Nat} {c : List Value} {ty : TypeId} {w : Bool} (g : M.get b = some (.cells c ty w)) (n1 : ty ≠ 26) : blk v ≠ some b := by
 obtain ⟨P, h1, h2, h3⟩ := h
 rcases h1 with ⟨b', sp, rfl, g', _⟩ | ⟨_, rfl⟩
 ·intro e
  cases e
  rw [g'] at g
  exact n1 (AObj.cells.inj (Option.some.inj g)).2.1.symm
 ·intro e; cases e
theorem appG2 {x l : Value} {L : List Ce} (e0 : Ext M₀ M₁) (e : Ext M₁ M) (hb : M₁.base ≤ M₁.size) (hA : Gr2 M₀ M₁ M v G) (hx : Mine 42 M₀ M x L) (hl : Sl M l [(⟨x⟩ : Vl)]) (hn : G.length + 1 ≤ 2 ^ 20) :
  ∃ v' M', opSem (.append 26 24 1 false (.const v) (.const l)) [] M = some (v', M') ∧ Ext M₁ M' ∧ Gr2 M₀ M₁ M' v' (G ++ [L]) ∧ v'.cells = #[v'] ∧ notTup v' = true ∧ (∀ c, c < M.size → blk v ≠ some c → M'.get c = M.get c) := by
 obtain ⟨P, h1, h2, rfl⟩ := hA
 have hPl : P.row.length = (P.map (·.2)).length := by simp
 obtain ⟨v', M', ha, e', m', k'⟩ : ∃ v' M', opSem (.append 26 24 1 false (.const v) (.const l)) [] M = some (v', M') ∧ Ext M₁ M' ∧ Mine 26 M₁ M' v' (P.row ++ [(⟨x⟩ : Vl)]) ∧ (∀ c, c < M.size → blk v ≠ some c → M'.get c = M.get c) :=
  step_appM (bytes := 24) e hb h1 hl.srcs (by rw [hPl]; simp only [List.length_singleton]; omega) (by
   rw [hPl]; simp only [List.length_singleton]
   exact Nat.le_trans (Nat.mul_le_mul_right 24 hn) (by decide)) fun v' M' e' m' k' => ⟨e', m', k'⟩
 have hc : v'.cells = #[v'] ∧ notTup v' = true := by
  rcases m' with ⟨b, sp, rfl, _⟩ | ⟨_, rfl⟩ <;> exact ⟨rfl, rfl⟩
 refine ⟨v', M', ha, e', ⟨P ++ [(x, L)], ?_, ?_, by simp⟩, hc.1, hc.2, k'⟩
 ·have : Parts.row (P ++ [(x, L)]) = P.row ++ [(⟨x⟩ : Vl)] := by simp [Parts.row]
  rw [this]; exact m'
 ·intro p hp
  rcases List.mem_append.1 hp with hp | hp
  ·exact mine_keep (h1.old e0) (h2 p hp) (by decide) k'
  ·rw [List.mem_singleton] at hp; subst hp
   exact mine_keep (h1.old e0) hx (by decide) k'
theorem litF {x z : Value} {L : List Ce} (hx : Sl M x L) {bs : List Nat} {Pr : Value → Mem → Prop} (q : ∀ l R, Ext M (R.thaw M.base) → Sl (R.thaw M.base) l [(⟨x⟩ : Vl)] → KeepB bs M R → Pr l R) : ∃ l R, opSem (.lit 26 1 [z] [(0, (1, (.const x)))]) [] M.freeze = some (l, R) ∧ (KeepB bs M R ∧ Pr l R) := by
 have hf : fillL [z] ([(0, 1, Operand.const x)].map fun p => (p.1, p.2.1, ev [] p.2.2)) = some (flat [(⟨x⟩ : Vl)]) := fill1 hx.srcs
 exact step_lit (M := M.freeze) [(⟨x⟩ : Vl)] hf rfl fun l R e n => ⟨e.keepF _, q l R e.thaw n.sl (e.keepF _)⟩
end
def newG (r c : Int) (z : Ce) : Gd := if mayB r c then List.replicate r.toNat (List.replicate c.toNat z) else []
def setR (G : Gd) (n : Int) (L : List Ce) : Gd := if 0 ≤ n ∧ L.length = (G.getD 0 []).length then G.set n.toNat L else G
theorem setR_len (G : Gd) (n : Int) (L : List Ce) : (setR G n L).length = G.length := by unfold setR; split <;> simp
section
variable {M₀ M : Mem} {Q : Value → Mem → Prop}
theorem refmay_W (hM : M.base ≤ M.size) {r c : Int} (q : Q (.bool (mayB r c)) M) : W funs known (.func (.func n_ref11_May) #[] #[]) [.int .i64 r, .int .i64 c] M Q := by
 unfold mayB at q
 refine ref11_May_wp hM (step_geq (wpIf.dec (fun h1 => step_leq (wpIf.dec (fun h2 => step_geq (wpIf.dec (fun h3 => step_leq ?_) (fun h3 => ?_))) (fun h2 => ?_))) (fun h1 => ?_)))
 ·exact q_of q (decide_eq_decide.2 ⟨fun h => h.2.2.2, fun h => ⟨h1, h3, h2, h⟩⟩)
 ·exact q_of q (decide_eq_false fun h => h3 h.2.1)
 ·exact q_of q (decide_eq_false fun h => h2 h.2.2.1)
 ·exact q_of q (decide_eq_false fun h => h1 h.1)
abbrev rgI (P : Mem) (r c : Int) (z : Ce) (b1 b3 b5 : Nat) : Nat → LS → Prop := fun k s => ∃ (i : Nat) (M' : Mem) (v : Value), s = ref11_New_l1_s (.int .i64 r) (.int .i64 c) (.int .i64 i) b1 (.int .i32 z.rune) (.int .i32 z.m1) (.int .i32 z.m2) (.int .u8 z.kind) (.int .u8 z.attr.a1) (.int .u8 z.attr.a2) (.int .u8 z.attr.a3) (.int .u8 z.attr.a4) (.int .u8 z.attr.a5) (.int .u8 z.attr.a6) (.int .u8 z.attr.a7) (.int .u8 z.attr.a8) (.int .u16 z.attr.a9) (.int .u8 z.label) b3 (.slice none 0 0) b5 v [] M' ∧
 Ext P M' ∧ M'.get b1 = some (.cells (Enc.enc z) 42 true) ∧ M'.get b3 = some (.cells [.slice none 0 0] 29 true) ∧ M'.get b5 = some (.cells [v] 29 true) ∧ Gr2 P P M' v (List.replicate i (List.replicate c.toNat z)) ∧ i ≤ r.toNat ∧ (mayB r c = false → i = 0) ∧ k = r.toNat - i
theorem refgnew_W (hM : M.base ≤ M.size) {r c : Int} {z : Ce} (hr : r ≤ 2 ^ 15) (q : ∀ M' v, Ext M M' → GrN M M' v (newG r c z) → Q (.agg #[v]) M') : W funs known (.func (.func n_ref11_New) #[] #[]) [.int .i64 r, .int .i64 c, z.val] M Q := by
 refine ref11_New_wp hM ⟨rfl, fun b1 M2 hb1 hM2 => ⟨rfl, fun b3 M4 hb3 hM4 => ⟨rfl, fun b5 M6 hb5 hM6 => ?_⟩⟩⟩
 have e2 : Ext M M2 := Ext.push' hM2
 have s2 : M2.size = M.size + 1 := by rw [hM2]; rfl
 have e4 : Ext M M4 := e2.trans (Ext.push' hM4)
 have s4 : M4.size = M2.size + 1 := by rw [hM4]; rfl
 have e46 : Ext M4 M6 := Ext.push' hM6
 have e6 : Ext M M6 := e4.trans e46
 have s6 : M6.size = M4.size + 1 := by rw [hM6]; rfl
 have g1 : M6.get b1 = some (.cells (Enc.enc z) 42 true) := ((Ext.push' hM4).trans e46).same (by rw [hM2, Mem.get_push, if_pos hb1]; rfl)
 have g3 : M6.get b3 = some (.cells [.slice none 0 0] 29 true) := e46.same (by rw [hM4, Mem.get_push, if_pos hb3])
 have g5 : M6.get b5 = some (.cells [.slice none 0 0] 29 true) := by rw [hM6, Mem.get_push, if_pos hb5]
 refine ⟨ref11_New_l1_m, rgI M r c z b1 b3 b5, ⟨r.toNat, 0, M6, .slice none 0 0, rfl, e6, g1, g3, g5, Gr2.nil, Nat.zero_le _, fun _ => rfl, rfl⟩, ?_⟩
 clear g1 g3 g5
 rintro k s ⟨i, M', v, rfl, eM, gb1, g3, g5, nM, hi, hz, rfl⟩
 have done : List.replicate i (List.replicate c.toNat z) = newG r c z → ref11_New_c0_q b1 (.int .i32 z.rune) (.int .i32 z.m1) (.int .i32 z.m2) (.int .u8 z.kind) (.int .u8 z.attr.a1) (.int .u8 z.attr.a2) (.int .u8 z.attr.a3) (.int .u8 z.attr.a4) (.int .u8 z.attr.a5) (.int .u8 z.attr.a6) (.int .u8 z.attr.a7) (.int .u8 z.attr.a8) (.int .u16 z.attr.a9) (.int .u8 z.label) b3 (.slice none 0 0) b5 v M' Q := fun he => by
  refine ⟨v, rfl, rfl, by decide, fun M1 hM1 => q M1 v ?_ ?_⟩
  ·exact hM1 ▸ eM.set (by omega) (Mem.lt_of_get g3) _
  ·rw [← he, hM1]
   exact (nM.box g3 (by decide) (by decide) _).grN (Ext.refl M)
 refine ref11_New_l1_wp (I := rgI M r c z b1 b3 b5) (step_lss (wpIf.dec (fun g1 => ?_) (fun g1 => ?_)))
 ·refine refmay_W (eM.ok hM) ⟨KeepB.refl _ _, ?_⟩
  cases hm : mayB r c with
  | false =>
   refine wpIf.ff (blockK.hit (ref11_New_c0_wp (done ?_)))
   rw [hz hm]; unfold newG; rw [hm]; rfl
  | true =>
   have hmm : 1 ≤ r ∧ 1 ≤ c ∧ r ≤ 512 ∧ c ≤ 512 := of_decide_eq_true hm
   refine wpIf.tt (refnew_W (freeze_ok M') (by omega) fun M5 x e5 n5 => ⟨e5.keepF _, ?_⟩)
   have e5' := e5.thaw
   have n5' : Mine 42 M' (M5.thaw M'.base) x (List.replicate c.toNat z) := n5
   have hbase : (M5.thaw M'.base).base = M'.base := rfl
   generalize M5.thaw M'.base = R at e5' n5' hbase ⊢
   refine litF n5'.sl fun l R7 e7 s7 k7 => ?_
   rw [hbase] at e7 s7
   have e75 := e5'.trans e7
   obtain ⟨v', M9, ha, e9, g9, hc1, hc2, k9⟩ := appG2 (Ext.refl M) (eM.trans e75) hM (nM.ext e75) ((n5'.ext e7).old eM) s7 (by simp; omega)
   have hb5' := (nM.ext e75).ne (e75.same g5) (by decide)
   have hb3' := (nM.ext e75).ne (e75.same g3) (by decide)
   have hb1' := (nM.ext e75).ne (e75.same gb1) (by decide)
   have lt5 := Mem.lt_of_get (e75.same g5)
   have lt1 := Mem.lt_of_get (e75.same gb1)
   have g19 : M9.get b1 = some (.cells (Enc.enc z) 42 true) := (k9 b1 lt1 hb1').trans (e75.same gb1)
   have lt3 := Mem.lt_of_get (e75.same g3)
   have g39 : M9.get b3 = some (.cells [.slice none 0 0] 29 true) := (k9 b3 lt3 hb3').trans (e75.same g3)
   have g59 : M9.get b5 = some (.cells [v] 29 true) := (k9 b5 lt5 hb5').trans (e75.same g5)
   refine ⟨v', M9, ha, fun y hy hlt => ?_, v', hc1, hc2, by simp, fun M10 hM10 => step_add (by omega) (by omega) ⟨r.toNat - (i + 1), by omega, i + 1, M10, v', rfl, ?_, ?_, ?_, ?_, ?_, by omega, fun h => (by rw [hm] at h; cases h), rfl⟩⟩
   ·refine k9 y hlt fun hh => ?_
    simp only [List.mem_cons, List.not_mem_nil, or_false] at hy
    rcases hy with rfl | rfl | rfl
    ·exact hb1' hh
    ·exact hb3' hh
    ·exact hb5' hh
   ·exact hM10 ▸ e9.set (by omega) (Mem.lt_of_get g59) _
   ·rw [hM10, Mem.get_set _ _ _ (Mem.lt_of_get g59), if_neg (by omega)]; exact g19
   ·rw [hM10, Mem.get_set _ _ _ (Mem.lt_of_get g59), if_neg (by omega)]; exact g39
   ·rw [hM10, Mem.get_set _ _ _ (Mem.lt_of_get g59), if_pos rfl]
   ·rw [hM10, List.replicate_succ']
    exact g9.box g59 (by decide) (by decide) _
 ·refine blockK.hit (ref11_New_c0_wp (done ?_))
  have hir : i = r.toNat := by omega
  unfold newG
  cases hm : mayB r c with
  | false => rw [hz hm]; rfl
  | true => rw [hir]; rfl
abbrev GT : TypeId := 29
abbrev rsI (M₀ M : Mem) (G : Gd) (gv v : Value) (n : Int) (L : List Ce) (b1 b3 b5 : Nat) : Nat → LS → Prop := fun k s => ∃ (i : Nat) (M' : Mem) (r : Value), s = ref11_Grid_Set_l1_s (.int .i64 n) v (.int .i64 i) b1 gv b3 (.slice none 0 0) b5 r [] M' ∧
 Ext M M' ∧ M'.get b1 = some (.cells [gv] GT true) ∧ M'.get b3 = some (.cells [.slice none 0 0] GT true) ∧ M'.get b5 = some (.cells [r] GT true) ∧ Gr2 M₀ M M' r ((setR G n L).take i) ∧ i ≤ G.length ∧ k = G.length - i
theorem setR_get (G : Gd) (n : Int) (L : List Ce) {i : Nat} {K : List Ce} (hK : G[i]? = some K) : (setR G n L)[i]? = some (if (i : Int) = n ∧ L.length = (G.getD 0 []).length then L else K) := by
 have hi := (List.getElem?_eq_some_iff.1 hK).1
 unfold setR
 split
 ·rename_i h
  by_cases hin : (i : Int) = n
  ·rw [if_pos ⟨hin, h.2⟩, show n.toNat = i by omega, List.getElem?_set_self hi]
  ·rw [if_neg (fun hh => hin hh.1), List.getElem?_set_ne (by omega)]; exact hK
 ·rename_i h
  rw [if_neg (fun hh => h ⟨by omega, hh.2⟩)]; exact hK
theorem refsetH_W (e0 : Ext M₀ M) (hM : M.base ≤ M.size) {gv : Value} {G : Gd} (h : GrN M₀ M gv G) (hG : G.length ≤ 2 ^ 15) {n : Int} {v : Value} {L : List Ce} (hv : SlH M v L) (hL : L.length ≤ 2 ^ 20) (q : ∀ M' r, Ext M M' → GrN M₀ M' r (setR G n L) → Q (.agg #[r]) M') :
  W funs known (.func (.func n_ref11_Grid_Set) #[] #[]) [.agg #[gv], .int .i64 n, v] M Q := by
 obtain ⟨P, p1, p2, p3⟩ := h
 have hPl : P.length = G.length := by rw [← p3]; simp
 have hPr : P.row.length = P.length := by simp
 obtain ⟨ga, gcap, hgv⟩ := p1.sl.shape
 refine ref11_Grid_Set_wp hM ?_
 refine ⟨rfl, fun b1 M2 hb1 hM2 => ⟨rfl, fun b3 M4 hb3 hM4 => ⟨rfl, fun b5 M6 hb5 hM6 => ?_⟩⟩⟩
 have e2 : Ext M M2 := Ext.push' hM2
 have s2 : M2.size = M.size + 1 := by rw [hM2]; rfl
 have e24 : Ext M2 M4 := Ext.push' hM4
 have e4 : Ext M M4 := e2.trans e24
 have s4 : M4.size = M2.size + 1 := by rw [hM4]; rfl
 have e46 : Ext M4 M6 := Ext.push' hM6
 have e6 : Ext M M6 := e4.trans e46
 have s6 : M6.size = M4.size + 1 := by rw [hM6]; rfl
 have g1 : M6.get b1 = some (.cells [gv] GT true) := (e24.trans e46).same (by rw [hM2, Mem.get_push, if_pos hb1])
 have g3 : M6.get b3 = some (.cells [.slice none 0 0] GT true) := e46.same (by rw [hM4, Mem.get_push, if_pos hb3])
 have g5 : M6.get b5 = some (.cells [.slice none 0 0] GT true) := by rw [hM6, Mem.get_push, if_pos hb5]
 refine ⟨ref11_Grid_Set_l1_m, rsI M₀ M G gv v n L b1 b3 b5, ⟨G.length, 0, M6, .slice none 0 0, rfl, e6, g1, g3, g5, Gr2.nil, Nat.zero_le _, rfl⟩, ?_⟩
 clear g1 g3 g5
 rintro k s ⟨i, M', r, rfl, eM, g1, g3, g5, nM, hi, rfl⟩
 have sl1 := p1.sl.ext eM
 refine ref11_Grid_Set_l1_wp (I := rsI M₀ M G gv v n L b1 b3 b5) (step_lenS sl1 ?_)
 rw [hPr, hPl]
 refine step_lss (wpIf.dec (fun g => ?_) (fun g => ?_))
 rotate_left
 ·have : i = G.length := by omega
  subst this
  rw [List.take_of_length_le (by rw [setR_len]; exact Nat.le_refl _)] at nM
  refine blockK.hit (ref11_Grid_Set_c0_wp ⟨r, rfl, rfl, by decide, fun M1 hM1 => q M1 r (hM1 ▸ eM.set (by omega) (Mem.lt_of_get g3) _) ?_⟩)
  rw [hM1]
  exact (nM.box g3 (by decide) (by decide) _).grN e0
 obtain ⟨p, hp⟩ : ∃ p, P[i]? = some p := ⟨_, List.getElem?_eq_getElem (by omega)⟩
 obtain ⟨p0, hp0⟩ : ∃ p0, P[0]? = some p0 := ⟨_, List.getElem?_eq_getElem (by omega)⟩
 have hpG : G[i]? = some p.2 := by rw [← p3, List.getElem?_map, hp]; rfl
 have hp0G : G.getD 0 [] = p0.2 := by rw [List.getD_eq_getElem?_getD, ← p3, List.getElem?_map, hp0]; rfl
 have hget := setR_get G n L hpG
 have tk : ∀ K, (setR G n L)[i]? = some K → (setR G n L).take (i + 1) = (setR G n L).take i ++ [K] := fun K hK => by
  obtain ⟨q1, q2⟩ := List.getElem?_eq_some_iff.1 hK
  rw [List.take_succ_eq_append_getElem q1, q2]
 have hp2 : Sl M' p.1 p.2 := (p2 p (List.mem_of_getElem? hp)).sl.ext eM
 have put : ∀ {R : Mem} {x : Value} {K : List Ce} {l : Value} {bs : List Nat} {Pr : Value → Mem → Prop}, Ext M' R → Mine 42 M₀ R x K → Sl R l [(⟨x⟩ : Vl)] → (setR G n L)[i]? = some K → (∀ y ∈ bs, y = b1 ∨ y = b3 ∨ y = b5) → (∀ v' M9, (KeepB bs R M9 ∧ ∃ v10, v'.cells = #[v10] ∧ notTup v' = true ∧ (0 < 1 ∧ ∀ M10, M10 = M9.set b5 (.cells [v10] GT true) → ∃ v11, binV .add 0 [] (.int .i64 (i : Int)) (.int .i64 1) = some v11 ∧ ∃ j, j < G.length - i ∧ rsI M₀ M G gv v n L b1 b3 b5 j (ref11_Grid_Set_l1_s (.int .i64 n) v v11 b1 gv b3 (.slice none 0 0) b5 v10 [] M10))) → Pr v' M9) →
   ∃ v' M9, opSem (.append 26 24 1 false (.const r) (.const l)) [] R = some (v', M9) ∧ Pr v' M9 := by
  intro R x K l bs Pr eR hx hl hK hbs k
  obtain ⟨v', M9, ha, e9, g9, hc1, hc2, k9⟩ := appG2 e0 (eM.trans eR) hM (nM.ext eR) hx hl (by rw [List.length_take]; omega)
  have n5 := (nM.ext eR).ne (eR.same g5) (by decide)
  have n3 := (nM.ext eR).ne (eR.same g3) (by decide)
  have n1 := (nM.ext eR).ne (eR.same g1) (by decide)
  have l5 := Mem.lt_of_get (eR.same g5)
  have g19 : M9.get b1 = some (.cells [gv] GT true) := (k9 b1 (Mem.lt_of_get (eR.same g1)) n1).trans (eR.same g1)
  have g39 : M9.get b3 = some (.cells [.slice none 0 0] GT true) := (k9 b3 (Mem.lt_of_get (eR.same g3)) n3).trans (eR.same g3)
  have g59 : M9.get b5 = some (.cells [r] GT true) := (k9 b5 l5 n5).trans (eR.same g5)
  refine ⟨v', M9, ha, k v' M9 ⟨fun y hy hlt => k9 y hlt fun hh => ?_, v', hc1, hc2, by simp, fun M10 hM10 => step_add (by omega) (by omega) ⟨G.length - (i + 1), by omega, i + 1, M10, v', rfl, ?_, ?_, ?_, ?_, ?_, by omega, rfl⟩⟩⟩
  ·rcases hbs y hy with rfl | rfl | rfl
   ·exact n1 hh
   ·exact n3 hh
   ·exact n5 hh
  ·exact hM10 ▸ e9.set (by omega) (Mem.lt_of_get g59) _
  ·rw [hM10, Mem.get_set _ _ _ (Mem.lt_of_get g59), if_neg (by omega)]; exact g19
  ·rw [hM10, Mem.get_set _ _ _ (Mem.lt_of_get g59), if_neg (by omega)]; exact g39
  ·rw [hM10, Mem.get_set _ _ _ (Mem.lt_of_get g59), if_pos rfl]
  ·rw [hM10, tk K hK]
   exact g9.box g59 (by decide) (by decide) _
 have other : ¬ ((i : Int) = n ∧ L.length = (G.getD 0 []).length) → ∃ v12, opSem (.addrL 1 (.const gv) (.const (.int .i64 (i : Int)))) [] M' = some (v12, M') ∧ ∃ v13, opSem (.load none (.const v12)) [] M' = some (v13, M') ∧ ∃ v14 M15, opSem (.lit 26 1 [.slice none 0 0] [(0, (1, (.const v13)))]) [] M'.freeze = some (v14, M15) ∧ (KeepB [b1, b3, b5] M' M15 ∧
   ∃ v16 M17, opSem (.append 26 24 1 false (.const r) (.const v14)) [] (M15.thaw M'.base) = some (v16, M17) ∧ (KeepB [b1, b3, b5] (M15.thaw M'.base) M17 ∧ ∃ v19, v16.cells = #[v19] ∧ notTup v16 = true ∧ (0 < 1 ∧ ∀ M18, M18 = M17.set b5 (.cells [v19] GT true) → ∃ v20, binV .add 0 [] (.int .i64 (i : Int)) (.int .i64 1) = some v20 ∧ ∃ j, j < G.length - i ∧ rsI M₀ M G gv v n L b1 b3 b5 j (ref11_Grid_Set_l1_s (.int .i64 n) v v20 b1 gv b3 (.slice none 0 0) b5 v19 [] M18)))) := fun hno => by
  refine rdV sl1 (by omega) (by rw [Int.toNat_natCast]; show (P.map _)[i]? = _; rw [List.getElem?_map, hp]; rfl) fun _ => litF hp2 fun l R7 e7 s7 k7 => ?_
  refine put e7 (((p2 p (List.mem_of_getElem? hp)).ext eM).ext e7) s7 (by rw [hget, if_neg hno]) (fun y hy => by simpa using hy) fun v' M9 hh => hh
 refine step_eql (wpIf.dec (fun gi => step_lenH (hv.ext eM) (rdV sl1 (by omega) (by show (P.map _)[0]? = _; rw [List.getElem?_map, hp0]; rfl) fun _ => step_lenS ((p2 p0 (List.mem_of_getElem? hp0)).sl.ext eM) (step_eql ?_))) (fun gi => ref11_Grid_Set_c2_wp (wpIf.ff (other fun hh => gi hh.1))))
 refine ref11_Grid_Set_c2_wp (wpIf.dec (fun gl => ?_) (fun gl => other fun hh => gl (by rw [hp0G] at hh; omega)))
 have hK : (setR G n L)[i]? = some L := by rw [hget, if_pos ⟨gi, by rw [hp0G]; omega⟩]
 refine step_lit (M := M'.freeze) (α := Ce) [] rfl rfl fun v1 M2' e2' n2' => ⟨e2'.keepF _, ?_⟩
 have e2x := e2'.thaw
 have n2x : New 42 M' (M2'.thaw M'.base) v1 ([] : List Ce) := n2'
 generalize M2'.thaw M'.base = R at e2x n2x ⊢
 obtain ⟨bz, sz, hz, gz, lz⟩ := n2x
 have hz0 : v1 = .slice (some ⟨bz, 0, sz⟩) 0 0 := hz
 subst hz0
 obtain ⟨v3, M4', ha4, e4', n4', _⟩ : ∃ v3 M4', opSem (.append 42 28 14 false (.const (.slice (some ⟨bz, 0, sz⟩) 0 0)) (.const v)) [] R = some (v3, M4') ∧ Ext M' M4' ∧ New 42 M' M4' v3 ([] ++ L) ∧ True :=
  step_app e2x (eM.ok hM) (A := ([] : List Ce)) ⟨bz, sz, rfl, gz, lz⟩ ((hv.ext eM).ext e2x).srcs' (by simp only [List.length_nil]; omega) (by simp only [List.length_nil, Nat.zero_add]; exact Nat.le_trans (Nat.mul_le_mul_right 28 hL) (by decide)) fun v3 M4' e4 n4 k4 => ⟨e4, n4, trivial⟩
 refine ⟨v3, M4', opSemQ_app ha4, fun y hy hlt => ?_, ?_⟩
 ·have hyM : y < M'.size := by
   simp only [List.mem_cons, List.not_mem_nil, or_false] at hy
   rcases hy with rfl | rfl | rfl
   ·exact Mem.lt_of_get g1
   ·exact Mem.lt_of_get g3
   ·exact Mem.lt_of_get g5
  rw [e4'.get y hyM, e2x.get y hyM]
 ·have hb4 : M4'.base = M'.base := e4'.base
  refine litF n4'.sl fun l R7 e7 s7 k7 => ?_
  refine put (e4'.trans e7) (.inl ((n4'.old (e0.trans eM)).ext e7)) s7 (by simpa using hK) (fun y hy => by simpa using hy) fun v' M9 hh => hh
theorem refset_W (e0 : Ext M₀ M) (hM : M.base ≤ M.size) {gv : Value} {G : Gd} (h : GrN M₀ M gv G) (hG : G.length ≤ 2 ^ 15) {n : Int} {v : Value} {L : List Ce} (hv : Sl M v L) (hL : L.length ≤ 2 ^ 20) (q : ∀ M' r, Ext M M' → GrN M₀ M' r (setR G n L) → Q (.agg #[r]) M') :
  W funs known (.func (.func n_ref11_Grid_Set) #[] #[]) [.agg #[gv], .int .i64 n, v] M Q := refsetH_W e0 hM h hG (.inl hv) hL q
structure Ln where
 c : Int
 v : Value
instance : Enc Ln := ⟨2, fun a => [.int .u8 a.c, a.v], fun _ => rfl, by decide⟩
abbrev Lns := List (Ln × List Dr)
def LnsOK (M : Mem) (T : Lns) : Prop := ∀ p ∈ T, SlH M p.1.v p.2 ∧ ∀ d ∈ p.2, d.ok
theorem LnsOK.ext {M M' : Mem} (e : Ext M M') {T : Lns} (h : LnsOK M T) : LnsOK M' T := fun p hp => ⟨(h p hp).1.ext e, (h p hp).2⟩
abbrev Lns.row (T : Lns) : List Ln := T.map (·.1)
def colsD (c : Int) : Nat := (1 + c % 20).toNat
def gridD (c : Int) (T : Lns) : Gd := if T.length = 0 then [List.replicate (colsD c) zeroC] else (T.take 8).map fun p => rowF (colsD c) p.2 []
theorem colsD_in (c : Int) (h : 0 ≤ c ∧ c ≤ 255) : ((colsD c : Nat) : Int) = 1 + c % 20 ∧ 1 ≤ colsD c ∧ colsD c ≤ 20 := by unfold colsD; omega
theorem rowD_len {c : Int} (h : 0 ≤ c ∧ c ≤ 255) (D : List Dr) : (rowF (colsD c) D []).length = colsD c := by
 rw [rowF_len]; have := colsD_in c h; omega
theorem gridD_cols {c : Int} (h : 0 ≤ c ∧ c ≤ 255) (T : Lns) : ∀ L ∈ gridD c T, L.length = colsD c := fun L hL => by
 unfold gridD at hL
 split at hL
 ·rw [List.mem_singleton] at hL; subst hL; simp
 ·obtain ⟨p, _, rfl⟩ := List.mem_map.1 hL; exact rowD_len h _
theorem gridD_rows (c : Int) (T : Lns) : 1 ≤ (gridD c T).length ∧ (gridD c T).length ≤ 8 := by
 unfold gridD
 split
 ·simp
 ·simp; omega
def partD (c : Int) (T : Lns) (n i : Nat) : Gd := ((T.take i).map fun p => rowF (colsD c) p.2 []) ++ List.replicate (n - i) (List.replicate (colsD c) zeroC)
abbrev gdI (P : Mem) (c : Int) (T : Lns) (dv : Value) (n : Nat) (b1 b3 b5 : Nat) : Nat → LS → Prop := fun k s => ∃ (i : Nat) (M' : Mem) (v : Value), s = ref11_Draft_Grid_l1_s (.slice none 0 0) (.int .i64 (1 + c % 20)) (.int .i64 i) b1 (.int .u8 c) dv b3 (.slice none 0 0) b5 v [] M' ∧
 Ext P M' ∧ M'.get b3 = some (.cells [.slice none 0 0] GT true) ∧ M'.get b5 = some (.cells [v] GT true) ∧ GrN P M' v (partD c T n i) ∧ i ≤ T.length ∧ i ≤ 8 ∧ k = 8 - i
theorem GrN.gr2 {M₁ M : Mem} {v : Value} {G : Gd} (h : GrN M₁ M v G) : Gr2 M₁ M₁ M v G := h
theorem partD_len (c : Int) (T : Lns) (n i : Nat) (hi : i ≤ T.length) (hn : i ≤ n) : (partD c T n i).length = n := by
 unfold partD; rw [List.length_append, List.length_map, List.length_take, List.length_replicate]; omega
theorem partD_cols {c : Int} (h : 0 ≤ c ∧ c ≤ 255) (T : Lns) (n i : Nat) : ∀ L ∈ partD c T n i, L.length = colsD c := fun L hL => by
 rcases List.mem_append.1 hL with hL | hL
 ·obtain ⟨p, _, rfl⟩ := List.mem_map.1 hL; exact rowD_len h _
 ·rw [(List.mem_replicate.1 hL).2, List.length_replicate]
theorem partD_set {c : Int} (h : 0 ≤ c ∧ c ≤ 255) {T : Lns} {n i : Nat} (hn : i < n) {p : Ln × List Dr} (hp : T[i]? = some p) : setR (partD c T n i) i (rowF (colsD c) p.2 []) = partD c T n (i + 1) := by
 obtain ⟨h1, h2⟩ := List.getElem?_eq_some_iff.1 hp
 have hl := partD_len c T n i (by omega) (by omega)
 obtain ⟨L0, hL0⟩ : ∃ L0, (partD c T n i)[0]? = some L0 := ⟨_, List.getElem?_eq_getElem (by omega)⟩
 have h0 : ((partD c T n i).getD 0 []).length = colsD c := by
  rw [List.getD_eq_getElem?_getD, hL0]; exact partD_cols h T n i L0 (List.mem_of_getElem? hL0)
 unfold setR
 rw [if_pos ⟨by omega, by rw [h0]; exact rowD_len h _⟩, Int.toNat_natCast]
 unfold partD
 have hml : ((T.take i).map fun p => rowF (colsD c) p.2 []).length = i := by rw [List.length_map, List.length_take]; omega
 rw [List.set_append_right _ _ (by omega), hml, Nat.sub_self, show n - i = (n - (i + 1)) + 1 by omega, List.replicate_succ, List.set_cons_zero, List.take_succ_eq_append_getElem h1, h2, List.map_append, List.append_assoc]
 rfl
theorem partD_all {c : Int} {T : Lns} {i : Nat} (hi : i ≤ T.length) (h8 : i ≤ 8) (he : i = T.length ∨ i = 8) : partD c T (max 1 (min 8 T.length)) i = gridD c T := by
 unfold partD gridD
 by_cases h0 : T.length = 0
 ·rw [if_pos h0]
  have : i = 0 := by omega
  subst this
  rw [h0]; rfl
 ·rw [if_neg h0, show max 1 (min 8 T.length) - i = 0 by omega, List.replicate_zero, List.append_nil]
  congr 1
  rcases he with he | he
  ·rw [he, List.take_length, List.take_of_length_le (by omega)]
  ·rw [he]
set_option maxHeartbeats 1000000 in
theorem draftG_W (hM : M.base ≤ M.size) {c : Int} (hc : 0 ≤ c ∧ c ≤ 255) {dv : Value} {T : Lns} (h : SlH M dv T.row) (hok : LnsOK M T) (q : ∀ M' v, Ext M M' → GrN M M' v (gridD c T) → Q (.agg #[v]) M') :
  W funs known (.func (.func n_ref11_Draft_Grid) #[] #[]) [.agg #[.int .u8 c, dv], .slice none 0 0] M Q := by
 obtain ⟨hC, hC1, hC2⟩ := colsD_in c hc
 have hTl : T.row.length = T.length := by simp
 refine ref11_Draft_Grid_wp hM ⟨rfl, fun b1 M2 hb1 hM2 => ⟨rfl, fun b3 M4 hb3 hM4 => step_rem8 (by decide) hc.1 (step_conv (i64_ok (by omega) (by omega)) (step_add (by omega) (by omega) ?_))⟩⟩
 have e2 : Ext M M2 := Ext.push' hM2
 have s2 : M2.size = M.size + 1 := by rw [hM2]; rfl
 have e24 : Ext M2 M4 := Ext.push' hM4
 have e4 : Ext M M4 := e2.trans e24
 have s4 : M4.size = M2.size + 1 := by rw [hM4]; rfl
 have g3 : M4.get b3 = some (.cells [.slice none 0 0] GT true) := by rw [hM4, Mem.get_push, if_pos hb3]
 refine step_lenH (h.ext e4) ?_
 rw [hTl]
 refine step_min (step_max ?_)
 obtain ⟨n, hn⟩ : ∃ n : Nat, n = max 1 (min 8 T.length) := ⟨_, rfl⟩
 have hnn : max (1 : Int) (min 8 (T.length : Int)) = (n : Int) := by omega
 rw [hnn]
 refine ⟨zeroC.val, rfl, refgnew_W (e4.ok hM) (by omega) fun M13 v12 e13 n13 => ⟨e13.keep _, rfl, fun b14 M15 hb14 hM15 => ⟨v12, rfl, rfl, by decide, fun M16 hM16 => ?_⟩⟩⟩
 have s13 := e13.size
 have lt3 := Mem.lt_of_get g3
 have e15 : Ext M13 M15 := Ext.push' hM15
 have s15 : M15.size = M13.size + 1 := by rw [hM15]; rfl
 have e013 := e4.trans e13
 have e016 : Ext M M16 := hM16 ▸ (e013.trans e15).set (by have := e013.size; omega) (by omega) _
 have hm : mayB (n : Int) (1 + c % 20) = true := decide_eq_true ⟨by omega, by omega, by omega, by omega⟩
 have hng : newG (n : Int) (1 + c % 20) zeroC = partD c T n 0 := by
  unfold newG partD colsD
  rw [hm, Int.toNat_natCast]; rfl
 rw [hng] at n13
 have g15 : M15.get b14 = some (.cells [.slice none 0 0] GT true) := by rw [hM15, Mem.get_push, if_pos hb14]
 have g316 : M16.get b3 = some (.cells [.slice none 0 0] GT true) := by
  rw [hM16, Mem.get_set _ _ _ (Mem.lt_of_get g15), if_neg (by have := e13.size; have := Mem.lt_of_get g3; omega)]
  exact (e13.trans e15).same g3
 have g516 : M16.get b14 = some (.cells [v12] GT true) := by rw [hM16, Mem.get_set _ _ _ (Mem.lt_of_get g15), if_pos rfl]
 have n16 : GrN M M16 v12 (partD c T n 0) := by
  rw [hM16]
  exact (((n13.old e4).ext e15).gr2.box g15 (by decide) (by decide) _).grN (Ext.refl M)
 refine ⟨ref11_Draft_Grid_l1_m, gdI M c T dv n b1 b3 b14, ⟨8, 0, M16, v12, rfl, e016, g316, g516, n16, Nat.zero_le _, Nat.zero_le _, rfl⟩, ?_⟩
 clear n16 g516 g316 e016 n13 hM16 hM15 e13 e013 e15 g15 s15 hng hm
 rintro k s ⟨i, M', v, rfl, eM, g3', g5', nM, hi, hi8, rfl⟩
 have done : (i = T.length ∨ i = 8) → ref11_Draft_Grid_c0_q b1 (.int .u8 c) dv b3 (.slice none 0 0) b14 v M' Q := fun he => by
  refine ⟨v, rfl, rfl, by decide, fun M1 hM1 => q M1 v (hM1 ▸ eM.set (by omega) (Mem.lt_of_get g3') _) ?_⟩
  rw [hn, partD_all hi hi8 he] at nM
  rw [hM1]
  exact (nM.gr2.box g3' (by decide) (by decide) _).grN (Ext.refl M)
 have hdv := h.ext eM
 refine ref11_Draft_Grid_l1_wp (I := gdI M c T dv n b1 b3 b14) (step_lenH hdv ?_)
 rw [hTl]
 refine step_lss (wpIf.dec (fun g1 => step_lss (wpIf.dec (fun g2 => ?_) (fun g2 => ?_))) (fun g1 => ?_))
 rotate_left
 ·exact blockK.hit (ref11_Draft_Grid_c0_wp (done (.inr (by omega))))
 ·exact blockK.hit (ref11_Draft_Grid_c0_wp (done (.inl (by omega))))
 obtain ⟨p, hp⟩ : ∃ p, T[i]? = some p := ⟨_, List.getElem?_eq_getElem (by omega)⟩
 have hr : T.row[i]? = some p.1 := by show (T.map _)[i]? = _; rw [List.getElem?_map, hp]; rfl
 obtain ⟨hsl, hd⟩ := hok p (List.mem_of_getElem? hp)
 have hpl : (partD c T n i).length = n := partD_len c T n i hi (by omega)
 refine ref11_Draft_Grid_c2_wp (step_conv (IntWalk.u8_in _ ⟨by omega, by omega⟩) (rd_f (hdv.at hr) (by omega) (by rw [Int.toNat_natCast]; exact hr) (f := 1) (x := p.1.v) rfl fun _ _ => ?_))
 have hbv : opSem (.build [(.int .u8 0), (.slice none 0 0)] [(0, (1, (.const (.int .u8 (1 + c % 20))))), (1, (1, (.const p.1.v)))]) [] M' = some (.agg #[.int .u8 (1 + c % 20), p.1.v], M') := by
  rcases hsl with ⟨a, cap, hv, _⟩ | ⟨_, k, hv⟩ <;> (rw [hv]; rfl)
 refine ⟨_, hbv, rfl, fun b6 M7 hb6 hM7 => ⟨⟨rfl, rfl, by decide⟩, fun M8 hM8 => step_len (s_gtF (by decide) (wpIf.ff (LGetN.as (.agg #[.int .u8 (1 + c % 20), p.1.v]) (by exact Nat.le_refl 2) rfl ?_)))⟩⟩
 have e7 : Ext M' M7 := Ext.push' hM7
 have s7 : M7.size = M'.size + 1 := by rw [hM7]; rfl
 have e8 : Ext M' M8 := hM8 ▸ e7.set (by omega) (by omega) _
 have e08 := eM.trans e8
 refine row_W (freeze_ok M8) (by omega) ((hsl.ext e08).freeze) hd fun M21 x e21 n21 => ⟨e21.keepF _, ?_⟩
 rw [← hC] at n21
 have e21' := e21.thaw
 have n21' : Mine 42 M8 (M21.thaw M8.base) x (rowF (colsD c) p.2 []) := n21
 generalize M21.thaw M8.base = R at e21' n21' ⊢
 have e0R := e08.trans e21'
 refine refset_W e0R (e0R.ok hM) (nM.ext (e8.trans e21')) (by omega) n21'.sl (by rw [rowD_len hc]; omega) fun M23 v25 e23 n23 => ⟨e23.keep _, v25, rfl, rfl, by decide, fun M24 hM24 => step_add (by omega) (by omega) ⟨8 - (i + 1), by omega, i + 1, M24, v25, rfl, ?_, ?_, ?_, ?_, by omega, by omega, rfl⟩⟩
 ·have g5x := e23.same ((e8.trans e21').same g5')
  exact hM24 ▸ (e0R.trans e23).set (by have := e2.size; have := Mem.lt_of_get g3; omega) (Mem.lt_of_get g5x) _
 ·have g5x := e23.same ((e8.trans e21').same g5')
  rw [hM24, Mem.get_set _ _ _ (Mem.lt_of_get g5x), if_neg (by omega)]
  exact e23.same ((e8.trans e21').same g3')
 ·have g5x := e23.same ((e8.trans e21').same g5')
  rw [hM24, Mem.get_set _ _ _ (Mem.lt_of_get g5x), if_pos rfl]
 ·have g5x := e23.same ((e8.trans e21').same g5')
  rw [hM24]
  rw [partD_set hc (by omega) hp] at n23
  exact (n23.gr2.box g5x (by decide) (by decide) _).grN (Ext.refl M)
abbrev gsI (M : Mem) (A B : Gd) (v w : Value) : Nat → LS → Prop := fun k s => ∃ (i : Nat), s = ref11_Same_l1_s v w (.int .i64 i) [] M ∧ i ≤ A.length ∧ A.take i = B.take i ∧ k = A.length - i
theorem rsame_W (hM : M.base ≤ M.size) {v w : Value} {A B : Gd} (h : Gr M v A) (h' : Gr M w B) (hl : ∀ L ∈ A, L.length ≤ 2 ^ 30) (hn : A.length ≤ 2 ^ 30) (q : Q (.bool (decide (A = B))) M) : W funs known (.func (.func n_ref11_Same) #[] #[]) [v, w] M Q := by
 obtain ⟨a, cap, rfl⟩ := h.shape
 obtain ⟨a', cap', rfl⟩ := h'.shape
 refine ref11_Same_wp hM (step_len (step_len (step_neq (wpIf.dec (fun h1 => ?_) (fun h1 => ?_)))))
 ·exact q_of q (decide_eq_false fun e => h1 (by rw [e]))
 have hAB : A.length = B.length := by omega
 refine ⟨ref11_Same_l1_m, gsI M A B (.slice a A.length cap) (.slice a' B.length cap'), ⟨A.length, 0, rfl, Nat.zero_le _, by simp, rfl⟩, ?_⟩
 rintro k s ⟨i, rfl, hi, ht, rfl⟩
 refine ref11_Same_l1_wp (I := gsI M A B (.slice a A.length cap) (.slice a' B.length cap')) (step_len (step_lss (wpIf.dec (fun g1 => ?_) (fun g1 => ?_))))
 ·obtain ⟨x, hx⟩ : ∃ x, A[i]? = some x := ⟨_, List.getElem?_eq_getElem (by omega)⟩
  obtain ⟨y, hy⟩ : ∃ y, B[i]? = some y := ⟨_, List.getElem?_eq_getElem (by omega)⟩
  refine rdG h (by omega) (by rw [Int.toNat_natCast]; exact hx) fun _ vx sx => rdG h' (by omega) (by rw [Int.toNat_natCast]; exact hy) fun _ vy sy => ?_
  refine same_W hM sx sy (Nat.le_trans (hl x (List.mem_of_getElem? hx)) (by decide)) ?_
  by_cases he : x = y
  ·refine ⟨.bool false, by rw [decide_eq_true he]; rfl, wpIf.ff (step_add (by omega) (by omega) ⟨A.length - (i + 1), by omega, i + 1, rfl, by omega, ?_, rfl⟩)⟩
   obtain ⟨p1, p2⟩ := List.getElem?_eq_some_iff.1 hx
   obtain ⟨q1, q2⟩ := List.getElem?_eq_some_iff.1 hy
   rw [List.take_succ_eq_append_getElem p1, List.take_succ_eq_append_getElem q1, ht, p2, q2, he]
  ·refine ⟨.bool true, by rw [decide_eq_false he]; rfl, wpIf.tt ?_⟩
   refine q_of q (b := false) (decide_eq_false fun e => he ?_)
   rw [e, hy] at hx; exact (Option.some.inj hx).symm
 ·have : i = A.length := by omega
  subst this
  refine blockK.hit (ref11_Same_c0_wp (q_of q (decide_eq_true ?_)))
  rwa [List.take_length, hAB, List.take_length] at ht
theorem refis_W (hM : M.base ≤ M.size) {gv : Value} {G : Gd} (h : Gr M gv G) {r : Int} (q : ∀ M', Ext M M' → Q (.bool (decide (0 ≤ r ∧ r < G.length))) M') : W funs known (.func (.func n_ref11_Grid_is) #[] #[]) [.agg #[gv], .int .i64 r] M Q := by
 obtain ⟨a, cap, rfl⟩ := h.shape
 refine ref11_Grid_is_wp hM ⟨rfl, fun b1 M2 hb1 hM2 => step_geq (wpIf.dec (fun h0 => step_len (step_lss ?_)) (fun h0 => ?_))⟩
 ·exact q_of (q M2 (Ext.push' hM2)) (decide_eq_decide.2 ⟨fun h => h.2, fun h => ⟨h0, h⟩⟩)
 ·exact q_of (q M2 (Ext.push' hM2)) (decide_eq_false fun h => h0 h.1)
theorem refIs_W (hM : M.base ≤ M.size) {gv : Value} {G : Gd} {C : Nat} (h : Gr M gv G) (hC : ∀ L ∈ G, L.length = C) {r c : Int} (q : ∀ M', Ext M M' → Q (.bool (hasB G C r c)) M') : W funs known (.func (.func n_ref11_Grid_Is) #[] #[]) [.agg #[gv], posV r c] M Q := by
 obtain ⟨a, cap, hgv⟩ := h.shape
 rw [hgv]
 refine ref11_Grid_Is_wp hM ⟨rfl, fun b1 M2 hb1 hM2 => ⟨rfl, fun b3 M4 hb3 hM4 => ?_⟩⟩
 rw [← hgv]
 have e2 : Ext M M2 := Ext.push' hM2
 have e4 : Ext M M4 := e2.trans (Ext.push' hM4)
 refine refis_W (e4.ok hM) (h.ext e4) fun M6 e6 => ⟨e6.keep _, ?_⟩
 have e06 := e4.trans e6
 have qq := q M6 e06
 unfold hasB at qq
 refine wpIf.dec (fun g1 => step_geq (wpIf.dec (fun g2 => ?_) (fun g2 => ?_))) (fun g1 => ?_)
 ·obtain ⟨L, hL⟩ : ∃ L, G[0]? = some L := ⟨_, List.getElem?_eq_getElem (by omega)⟩
  refine rdG (i := 0) (h.ext e06) (by omega) hL fun _ x sx => step_lenS sx (step_lss ?_)
  rw [hC L (List.mem_of_getElem? hL)]
  exact q_of qq (decide_eq_decide.2 ⟨fun h => h.2.2.2, fun h => ⟨g1.1, g1.2, g2, h⟩⟩)
 ·exact q_of qq (decide_eq_false fun h => g2 h.2.2.1)
 ·exact q_of qq (decide_eq_false fun h => g1 ⟨h.1, h.2.1⟩)
structure Sp where
 what : Int
 row : Int
 col : Int
 n : Int
 m : Int
 cell : Dr
 odd : Bool
instance : Enc Sp := ⟨11, fun s => [.int .u8 s.what, .int .u8 s.row, .int .u8 s.col, .int .u8 s.n, .int .u8 s.m, .int .u8 s.cell.rune, .int .u8 s.cell.marks, .int .u8 s.cell.attr, .bool s.cell.wide, .bool s.cell.high, .bool s.odd], fun _ => rfl, by decide⟩
abbrev Sp.val (s : Sp) : Value := .agg (Enc.enc s).toArray
structure Sp.ok (s : Sp) : Prop where
 what : 0 ≤ s.what ∧ s.what ≤ 255
 row : 0 ≤ s.row ∧ s.row ≤ 255
 col : 0 ≤ s.col ∧ s.col ≤ 255
 n : 0 ≤ s.n ∧ s.n ≤ 255
 m : 0 ≤ s.m ∧ s.m ≤ 255
 cell : s.cell.ok
def blankS (s : Sp) : Ce := blankF (cellF s.cell).attr (cellF s.cell).label
def regionF (s : Sp) (R : Int) : Int × Int × Int := if s.odd then (s.row - 2, s.m - 2, s.n - 3) else (s.row % R, s.row % R + s.m % (R - s.row % R), s.n % 9)
structure Ac where
 kind : Int
 r : Int
 c : Int
 n : Int
 cell : Ce
 mark : Int
abbrev Ac.cells (a : Ac) : List Value := [.int .i64 a.kind, .int .i64 a.r, .int .i64 a.c, .int .i64 a.n] ++ Enc.enc a.cell ++ [.int .i32 a.mark]
abbrev Ac.val (a : Ac) : Value := .agg a.cells.toArray
def actF (s : Sp) (R C : Int) : Ac := ⟨s.what % 6, if s.odd then s.row - 3 else s.row % R, if s.odd then s.col - 3 else s.col % C, if s.odd then s.n - 5 else s.n % 24, if s.what % 6 < 2 then cellF s.cell else blankS s, 769⟩
end
end Go.Proofs.Ytifemfnjoobiiaa.Run
