/- The law's own functions: a grid of the document's, all rows of a grid, whether each is whole, a step. -/
import Derived.Test.YtifemfnjoobiiaaGridD
import Derived.Test.YtifemfnjoobiiaaRefG
import Derived.Test.YtifemfnjoobiiaaVcA
namespace Go.Proofs.Ytifemfnjoobiiaa.Run
open Go Go.RowKit
set_option linter.unusedVariables false
set_option linter.unusedSimpArgs false
section
variable {M₀ M : Mem} {b rb C : Nat} {G : Gd} {Q : Value → Mem → Prop}
abbrev ofI (M : Mem) (G : Gd) (C : Nat) (gv : Value) (b rb b1 : Nat) : Nat → LS → Prop := fun k s => ∃ (i : Nat) (M' : Mem), s = law11_of_l1_s (.pointer (some ⟨b, 0, none⟩)) (.int .i64 i) b1 gv [] M' ∧ Ext M M' ∧ b1 < M'.size ∧ b1 ≠ rb ∧ Gp M M' b rb C (G.take i ++ List.replicate (G.length - i) (List.replicate C zeroC)) ∧ i ≤ G.length ∧ k = G.length - i
theorem of_W (hM : M.base ≤ M.size) {gv : Value} (h : Gr M gv G) (hC : ∀ L ∈ G, L.length = C) (c1 : 1 ≤ C) (c2 : C ≤ 512) (n1 : 1 ≤ G.length) (n2 : G.length ≤ 512) (q : ∀ M' b rb, Ext M M' → Gp M M' b rb C G → Q (.pointer (some ⟨b, 0, none⟩)) M') :
  W funs known (.func (.func n_law11_of) #[] #[]) [.agg #[gv]] M Q := by
 obtain ⟨a, cap, hgv⟩ := h.shape
 rw [hgv]
 refine law11_of_wp hM ⟨rfl, fun b1 M2 hb1 hM2 => ?_⟩
 rw [← hgv]
 have e2 : Ext M M2 := Ext.push' hM2
 have s2 : M2.size = M.size + 1 := by rw [hM2]; rfl
 have h2 := h.ext e2
 obtain ⟨L0, hL0⟩ : ∃ L0, G[0]? = some L0 := ⟨_, List.getElem?_eq_getElem (by omega)⟩
 refine step_lenG h2 (s_eqF (by omega) (wpIf.ff (step_lenG h2 (rdG (i := 0) h2 (by omega) hL0 fun _ x sx => step_lenS sx ⟨zeroC.val, rfl, ?_⟩))))
 rw [hC L0 (List.mem_of_getElem? hL0)]
 have hmay : mayB (G.length : Int) (C : Int) = true := decide_eq_true ⟨by omega, by omega, by omega, by omega⟩
 refine gnew_W (e2.ok hM) (fun hm => by rw [hmay] at hm; cases hm) fun _ M11 b rb e11 h11 => ⟨e11.keep _, ?_⟩
 rw [Int.toNat_natCast, Int.toNat_natCast] at h11
 have e011 := e2.trans e11
 have f11 := h11.facts
 have s11 := e11.size
 refine ⟨law11_of_l1_m, ofI M G C gv b rb b1, ⟨G.length, 0, M11, rfl, e011, by omega, by omega, ?_, Nat.zero_le _, rfl⟩, ?_⟩
 ·exact h11.old e2
 rintro k s ⟨i, M', rfl, eM, lb1, nb1, hG, hi, rfl⟩
 have hM' := h.ext eM
 refine law11_of_l1_wp (I := ofI M G C gv b rb b1) (step_lenG hM' (step_lss (wpIf.dec (fun g1 => ?_) (fun g1 => ?_))))
 ·obtain ⟨L, hL⟩ : ∃ L, G[i]? = some L := ⟨_, List.getElem?_eq_getElem (by omega)⟩
  have hLC := hC L (List.mem_of_getElem? hL)
  refine rdG hM' (by omega) (by rw [Int.toNat_natCast]; exact hL) fun _ x sx => gset_W eM hM hG sx (by omega) fun M6 t6 h6 => ⟨fun y hy hlt => t6.get y hlt (by rw [List.mem_singleton] at hy; omega), step_add (by omega) (by omega) ⟨G.length - (i + 1), by omega, i + 1, M6, rfl, ?_, by have := t6.size; omega, nb1, ?_, by omega, rfl⟩⟩
  ·have f := hG.facts
   exact ⟨t6.base.trans eM.base, Nat.le_trans eM.size t6.size, fun c hc => (t6.get c (by have := eM.size; omega) (by omega)).trans (eM.get c hc)⟩
  ·have : setG (G.take i ++ List.replicate (G.length - i) (List.replicate C zeroC)) C (i : Int) L = G.take (i + 1) ++ List.replicate (G.length - (i + 1)) (List.replicate C zeroC) := by
    unfold setG
    obtain ⟨p1, p2⟩ := List.getElem?_eq_some_iff.1 hL
    rw [if_pos ⟨by omega, hLC⟩, Int.toNat_natCast, List.set_append_right _ _ (by rw [List.length_take]; omega), List.length_take, Nat.min_eq_left hi, Nat.sub_self, show G.length - i = (G.length - (i + 1)) + 1 by omega, List.replicate_succ, List.set_cons_zero, List.take_succ_eq_append_getElem p1, p2, List.append_assoc]
    rfl
   rw [← this]; exact h6
 ·have : i = G.length := by omega
  subst this
  rw [List.take_length, Nat.sub_self, List.replicate_zero, List.append_nil] at hG
  exact blockK.hit (law11_of_c0_wp (q M' b rb eM hG))
abbrev roI (M : Mem) (G : Gd) (b : Nat) : Nat → LS → Prop := fun k s => ∃ (i : Nat) (M' : Mem) (v : Value), s = law11_rows_l1_s (.pointer (some ⟨b, 0, none⟩)) v (.int .i64 G.length) (.int .i64 i) [] M' ∧ Ext M M' ∧ GrN M M' v (G.take i) ∧ i ≤ G.length ∧ k = G.length - i
def actG (G : Gd) (C : Nat) (a : Ac) : Gd :=
 if a.kind = 0 ∨ a.kind = 1 then putG G C a.r a.c a.cell (decide (a.kind = 1)) else if a.kind = 2 then markG G C a.r a.c a.mark a.cell.label
 else if a.kind = 3 then insertG G C a.r a.c a.n a.cell else if a.kind = 4 then deleteG G C a.r a.c a.n a.cell else eraseG G a.r a.c a.n a.cell
def doesF (s : Sp) (G : Gd) (C : Nat) : Gd × Nat × Gd :=
 if s.what % 10 = 6 ∨ s.what % 10 = 7 then ((scrollG (decide (s.what % 10 = 6)) G C (regionF s G.length).1 (regionF s G.length).2.1 (regionF s G.length).2.2 (blankS s)).1, C, (scrollG (decide (s.what % 10 = 6)) G C (regionF s G.length).1 (regionF s G.length).2.1 (regionF s G.length).2.2 (blankS s)).2)
 else if s.what % 10 = 8 then (raiseG G (blankS s).label, C, [])
 else if s.what % 10 = 9 then (if mayB (s.n % 12) (s.m % 24) then (resizeG G (s.n % 12).toNat (s.m % 24).toNat (blankS s), (s.m % 24).toNat, []) else (G, C, []))
 else (actG G C (actF s G.length C), C, [])
end
end Go.Proofs.Ytifemfnjoobiiaa.Run
