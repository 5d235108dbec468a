/- What the functions of chapter 26 do that go along rows. -/
import Derived.Test.YtacabjkhhejjcaaPane
namespace Go.Proofs.Ytacabjkhhejjcaa.Run
open Go Go.RowKit
set_option linter.unusedVariables false
set_option linter.unusedSimpArgs false

/-- a value in a cell -/
structure Cl where
  v : Value
instance : Enc Cl := ⟨1, fun a => [a.v], fun _ => rfl, by decide⟩

section
variable {Q : Value → Mem → Prop}

abbrev allI (M : Mem) (B : Nat → Bool) (v : Value) (n : Nat) : Nat → LS → Prop := fun k s => ∃ (i : Nat) (M' : Mem), s = pane_all_l1_s v (.int .i64 n) (.int .i64 i) [] M' ∧ Ext M M' ∧ i ≤ n ∧ (∀ j, j < i → B j = true) ∧ k = n - i

/-- conditions asked one behind the other -/
theorem all_W {M : Mem} (hM : M.base ≤ M.size) {v : Value} {L : List Cl} (h : Sl M v L) {B : Nat → Bool} (hL : L.length < 2 ^ 60)
    (hf : ∀ i a, L[i]? = some a → ∀ M' (Q : Value → Mem → Prop), Ext M M' → (∀ j, j < i → B j = true) → (∀ M'', Ext M' M'' → Q (.bool (B i)) M'') → W funs known a.v [] M' Q)
    (q : ∀ M' b, Ext M M' → (b = true ↔ ∀ j, j < L.length → B j = true) → Q (.bool b) M') : W funs known (.func (.func n_pane_all) #[] #[]) [v] M Q := by
  obtain ⟨ad, cap, rfl, hcap, hs⟩ := id h
  refine pane_all_wp hM (step_len ?_)
  refine ⟨pane_all_l1_m, allI M B (.slice ad L.length cap) L.length, ⟨L.length, 0, M, rfl, Ext.refl M, Nat.zero_le _, fun j hj => absurd hj (by omega), rfl⟩, ?_⟩
  rintro k s ⟨i, M', rfl, eM, hi, hB, rfl⟩
  refine pane_all_l1_wp (I := allI M B (.slice ad L.length cap) L.length) ?_
  refine step_lss (wpIf.dec (fun h1 => ?_) (fun h1 => ?_))
  · have hlt : i < L.length := by omega
    have ha : L[i]? = some L[i] := List.getElem?_eq_getElem hlt
    obtain ⟨p, hp, hat⟩ := (h.ext eM).addr (i := (i : Int)) (by omega) (a := L[i]) (by rw [Int.toNat_natCast]; exact ha) (j := .i64) M'
    refine ⟨p, hp, _, hat.load1 rfl, hf i _ ha M' _ eM hB fun M'' e2 => step_not (wpIf.not (fun hb => ?_) (fun hb => ?_))⟩
    · refine q M'' false (eM.trans e2) ⟨fun h => (by cases h), fun h => ?_⟩
      rw [h i hlt] at hb; cases hb
    · refine step_add (by omega) (by omega) ⟨L.length - (i + 1), by omega, i + 1, M'', rfl, eM.trans e2, by omega, fun j hj => ?_, rfl⟩
      rcases Nat.lt_or_eq_of_le (Nat.le_of_lt_succ hj) with h2 | rfl
      · exact hB j h2
      · exact hb
  · refine blockK.hit (pane_all_c0_wp ?_)
    exact q M' true eM ⟨fun _ j hj => hB j (by omega), fun _ => rfl⟩

theorem eql_rc (a b : Rc) : binV .eql 2 [0, 0, 0, 0] a.val b.val = some (.bool (decide (a = b))) := by
  show (if (2 : Nat) = 2 then (eqV true [0, 0, 0, 0] a.val b.val).bind (negIf .eql) else none) = _
  obtain ⟨a1, a2, a3, a4⟩ := a
  obtain ⟨b1, b2, b3, b4⟩ := b
  rw [if_pos rfl]
  by_cases h1 : a1 = b1 <;> by_cases h2 : a2 = b2 <;> by_cases h3 : a3 = b3 <;> by_cases h4 : a4 = b4 <;> simp [eqV, eqCells, cellEq, negIf, Rc.val, h1, h2, h3, h4]

theorem clip_in {a : Rc} (ha : a.ok) {R C : Int} (hs : screenF R C = true) (hp : a.t > 0 ∧ a.r > 0 ∧ a.c > 0) : clipF a R C = a ↔ inF R C a = true := by
  obtain ⟨t, l, r, c⟩ := a
  obtain ⟨h1, h2, h3, h4⟩ := ha
  have hs := of_decide_eq_true hs
  unfold I64 at h1 h2 h3 h4
  simp only at h1 h2 h3 h4 hp
  unfold clipF inF
  rw [decide_eq_true_iff]
  simp only
  have ht : rspanF t r R = (if R ≤ t then (0, 0) else (t, max 0 (min R (t + r)))) := by
    unfold rspanF
    repeat' split
    all_goals first | rfl | (refine Prod.ext ?_ ?_ <;> simp only <;> omega)
  have hl : (rspanF l c C = (if C ≤ l then (0, 0) else (max 0 l, max 0 (min C (l + c))))) := by
    unfold rspanF
    repeat' split
    all_goals first | rfl | (refine Prod.ext ?_ ?_ <;> simp only <;> omega)
  rw [ht, hl]
  by_cases c1 : R ≤ t
  · rw [if_pos c1]
    simp only [Int.le_refl, true_or, if_true]
    constructor
    · intro h; cases h; omega
    · omega
  · rw [if_neg c1]
    by_cases c2 : C ≤ l
    · rw [if_pos c2]
      simp only [Int.le_refl, or_true, if_true]
      constructor
      · intro h; cases h; omega
      · omega
    · rw [if_neg c2]
      simp only
      split
      · constructor
        · intro h; cases h; omega
        · omega
      · constructor
        · intro h
          have z1 := congrArg Rc.t h
          have z2 := congrArg Rc.l h
          have z3 := congrArg Rc.r h
          have z4 := congrArg Rc.c h
          simp only at z1 z2 z3 z4
          have y2 : 0 ≤ l := by omega
          have y3 : t + r ≤ R := by omega
          have y4 : l + c ≤ C := by omega
          exact ⟨hs, by omega, y2, by omega, by omega, y3, y4⟩
        · intro h
          have y2 : max 0 l = l := by omega
          have y3 : max 0 (min R (t + r)) - t = r := by omega
          have y4 : max 0 (min C (l + c)) - max 0 l = c := by omega
          rw [y3, y4, y2]

theorem in1_W {M : Mem} (hM : M.base ≤ M.size) {R C : Int} {p0 p1 : Nat} (h0 : M.load1 p0 0 = some (.int .i64 R)) (h1 : M.load1 p1 0 = some (.int .i64 C)) (q : Q (.bool (screenF R C)) M) :
    W funs known (.func (.func n_pane_Inside_1) #[] #[.pointer (some ⟨p0, 0, none⟩), .pointer (some ⟨p1, 0, none⟩)]) [] M Q := by
  refine pane_Inside_1_wp hM ⟨_, by simp only [opSem, ev, h0]; rfl, _, by simp only [opSem, ev, h1]; rfl, screen_W hM q⟩
theorem in2_W {M : Mem} (hM : M.base ≤ M.size) {a : Rc} {p : Value} (h : At M p a) (q : Q (.bool (decide (a.t > 0 ∧ a.r > 0 ∧ a.c > 0))) M) :
    W funs known (.func (.func n_pane_Inside_2) #[] #[p]) [] M Q := by
  obtain ⟨p0, e0, f0⟩ := h.field 0 (v := .int .i64 a.t) rfl M
  obtain ⟨p1, e1, f1⟩ := h.field 2 (v := .int .i64 a.r) rfl M
  obtain ⟨p2, e2, f2⟩ := h.field 3 (v := .int .i64 a.c) rfl M
  refine pane_Inside_2_wp hM ⟨p0, e0, _, f0, step_gtr (wpIf.dec (fun c1 => ⟨p1, e1, _, f1, step_gtr (wpIf.dec (fun c2 => ⟨p2, e2, _, f2, step_gtr ?_⟩) (fun c2 => ?_))⟩) (fun c1 => ?_))⟩
  all_goals refine q_of q ?_
  all_goals first | exact decide_eq_decide.2 (by omega) | exact decide_eq_false (by omega)
theorem in3_W {M : Mem} (hM : M.base ≤ M.size) {R C : Int} (hR : I64 R) (hC : I64 C) {a : Rc} (ha : a.ok) {p : Value} {p0 p1 : Nat} (h : At M p a) (h0 : M.load1 p0 0 = some (.int .i64 R)) (h1 : M.load1 p1 0 = some (.int .i64 C))
    (q : ∀ M', Ext M M' → Q (.bool (decide (clipF a R C = a))) M') :
    W funs known (.func (.func n_pane_Inside_3) #[] #[p, .pointer (some ⟨p0, 0, none⟩), .pointer (some ⟨p1, 0, none⟩)]) [] M Q := by
  refine pane_Inside_3_wp hM ⟨_, h.load, _, by simp only [opSem, ev, h0]; rfl, _, by simp only [opSem, ev, h1]; rfl, clip_W (freeze_ok M) ha hR hC fun M5 e5 => ?_⟩
  have e6 : Ext M (M5.thaw M.base) := Ext.thaw e5
  exact ⟨_, (h.ext e6).load, _, eql_rc _ _, q _ e6⟩

theorem load1_ext {M M' : Mem} (e : Ext M M') {b o : Nat} {v : Value} (h : M.load1 b o = some v) : M'.load1 b o = some v := by
  have : M'.get b = M.get b := by
    cases hg : M.get b with
    | none => unfold Mem.load1 at h; rw [hg] at h; cases h
    | some o => rw [← hg]; exact e.get b (Mem.lt_of_get hg)
  unfold Mem.load1 at h ⊢
  rw [this]; exact h

theorem in_W {M : Mem} (hM : M.base ≤ M.size) {a : Rc} (ha : a.ok) {R C : Int} (hR : I64 R) (hC : I64 C) (q : ∀ M', Ext M M' → Q (.bool (inF R C a)) M') : W funs known (.func (.func n_pane_Inside) #[] #[]) [.int .i64 R, .int .i64 C, a.val] M Q := by
  refine pane_Inside_wp hM ⟨rfl, fun b1 M2 hb1 hM2 => ⟨rfl, fun b3 M4 hb3 hM4 => ⟨rfl, fun b5 M6 hb5 hM6 => ?_⟩⟩⟩
  have s2 : M2.size = M.size + 1 := by rw [hM2]; rfl
  have s4 : M4.size = M2.size + 1 := by rw [hM4]; rfl
  have s6 : M6.size = M4.size + 1 := by rw [hM6]; rfl
  have e2 : Ext M2 M4 := Ext.push' hM4
  have e4 : Ext M4 M6 := Ext.push' hM6
  have e6 : Ext M M6 := ((Ext.push' hM2).trans e2).trans e4
  have k1 : M6.get b1 = some (.cells [.int .i64 R] 3 true) := (e2.trans e4).same (by rw [hM2, Mem.get_push, if_pos (by omega)])
  have k3 : M6.get b3 = some (.cells [.int .i64 C] 3 true) := e4.same (by rw [hM4, Mem.get_push, if_pos (by omega)])
  have k5 : M6.get b5 = some (.cells (Enc.enc a) 34 true) := by rw [hM6, Mem.get_push, if_pos (by omega)]; rfl
  clear hb1 hM2 hb3 hM4 hb5 hM6
  have g1 : M6.load1 b1 0 = some (.int .i64 R) := by simp [Mem.load1, k1]
  have g3 : M6.load1 b3 0 = some (.int .i64 C) := by simp [Mem.load1, k3]
  have g5 : At M6 (.pointer (some ⟨b5, 0, none⟩)) a := by
    refine ⟨_, _, rfl, ?_⟩
    simp only [Mem.loadN, k5]
    rfl
  refine ⟨.slice (some ⟨M6.size, 0, some 0⟩) 3 3, M6.push (.cells [.func (.func n_pane_Inside_1) #[] #[.pointer (some ⟨b1, 0, none⟩), .pointer (some ⟨b3, 0, none⟩)], .func (.func n_pane_Inside_2) #[] #[.pointer (some ⟨b5, 0, none⟩)], .func (.func n_pane_Inside_3) #[] #[.pointer (some ⟨b5, 0, none⟩), .pointer (some ⟨b1, 0, none⟩), .pointer (some ⟨b3, 0, none⟩)]] 27 true), rfl, (Ext.push _ _).keep _, ?_⟩
  have e8 : Ext M (M6.push (.cells [.func (.func n_pane_Inside_1) #[] #[.pointer (some ⟨b1, 0, none⟩), .pointer (some ⟨b3, 0, none⟩)], .func (.func n_pane_Inside_2) #[] #[.pointer (some ⟨b5, 0, none⟩)], .func (.func n_pane_Inside_3) #[] #[.pointer (some ⟨b5, 0, none⟩), .pointer (some ⟨b1, 0, none⟩), .pointer (some ⟨b3, 0, none⟩)]] 27 true)) := e6.trans (Ext.push _ _)
  have hS : Sl (M6.push (.cells [.func (.func n_pane_Inside_1) #[] #[.pointer (some ⟨b1, 0, none⟩), .pointer (some ⟨b3, 0, none⟩)], .func (.func n_pane_Inside_2) #[] #[.pointer (some ⟨b5, 0, none⟩)], .func (.func n_pane_Inside_3) #[] #[.pointer (some ⟨b5, 0, none⟩), .pointer (some ⟨b1, 0, none⟩), .pointer (some ⟨b3, 0, none⟩)]] 27 true)) (.slice (some ⟨M6.size, 0, some 0⟩) 3 3)
      [(⟨.func (.func n_pane_Inside_1) #[] #[.pointer (some ⟨b1, 0, none⟩), .pointer (some ⟨b3, 0, none⟩)]⟩ : Cl), ⟨.func (.func n_pane_Inside_2) #[] #[.pointer (some ⟨b5, 0, none⟩)]⟩, ⟨.func (.func n_pane_Inside_3) #[] #[.pointer (some ⟨b5, 0, none⟩), .pointer (some ⟨b1, 0, none⟩), .pointer (some ⟨b3, 0, none⟩)]⟩] := by
    refine ⟨_, _, rfl, Nat.le_refl _, .inr ⟨_, _, _, rfl, ?_, trivial⟩⟩
    simp only [Mem.loadN, Mem.get_push, if_true]
    rfl
  have e68 := Ext.push M6 (.cells [.func (.func n_pane_Inside_1) #[] #[.pointer (some ⟨b1, 0, none⟩), .pointer (some ⟨b3, 0, none⟩)], .func (.func n_pane_Inside_2) #[] #[.pointer (some ⟨b5, 0, none⟩)], .func (.func n_pane_Inside_3) #[] #[.pointer (some ⟨b5, 0, none⟩), .pointer (some ⟨b1, 0, none⟩), .pointer (some ⟨b3, 0, none⟩)]] 27 true)
  generalize M6.push _ = P at e8 hS e68 ⊢
  refine all_W (e8.ok hM) hS (B := fun i => if i = 0 then screenF R C else if i = 1 then decide (a.t > 0 ∧ a.r > 0 ∧ a.c > 0) else decide (clipF a R C = a)) (by simp) ?_ ?_
  · intro i x hx M' Q' eM hB q'
    have hok := (e8.trans eM).ok hM
    match i, hx with
    | 0, hx => cases hx; exact in1_W hok (load1_ext (e68.trans eM) g1) (load1_ext (e68.trans eM) g3) (q' _ (Ext.refl _))
    | 1, hx => cases hx; exact in2_W hok (g5.ext (e68.trans eM)) (q' _ (Ext.refl _))
    | 2, hx => cases hx; exact in3_W hok hR hC ha (g5.ext (e68.trans eM)) (load1_ext (e68.trans eM) g1) (load1_ext (e68.trans eM) g3) q'
  · intro M' b eM hb
    refine ⟨eM.keep _, q_of (q M' (e8.trans eM)) ?_⟩
    apply Bool.eq_iff_iff.2
    rw [hb]
    constructor
    · intro h j hj
      have hd := of_decide_eq_true h
      have hs : screenF R C = true := decide_eq_true hd.1
      have hp : a.t > 0 ∧ a.r > 0 ∧ a.c > 0 := by omega
      have hj' : j = 0 ∨ j = 1 ∨ j = 2 := by simp at hj; omega
      rcases hj' with rfl | rfl | rfl
      · exact hs
      · exact decide_eq_true hp
      · exact decide_eq_true ((clip_in ha hs hp).2 h)
    · intro h
      have hs : screenF R C = true := h 0 (by simp)
      have hp : decide (a.t > 0 ∧ a.r > 0 ∧ a.c > 0) = true := h 1 (by simp)
      have hc : decide (clipF a R C = a) = true := h 2 (by simp)
      exact (clip_in ha hs (of_decide_eq_true hp)).1 (of_decide_eq_true hc)
end
end Go.Proofs.Ytacabjkhhejjcaa.Run
