/- Grids that are drawn (chapter 12's kit), and whether two grids are alike. -/
import Derived.Test.YtkelbhcaecojkaaRowH
import Derived.Test.YtkelbhcaecojkaaVcR
namespace Go.Proofs.Ytkelbhcaecojkaa.Run
open Go Go.RowKit
set_option linter.unusedVariables false
set_option linter.unusedSimpArgs false
abbrev Gd := List (List Ce)
def Gr (M : Mem) (v : Value) (G : Gd) : Prop := ∃ P : Parts, Sl M v P.row ∧ (∀ p ∈ P, Sl M p.1 p.2) ∧ P.map (·.2) = G
def GrN (M₀ M : Mem) (v : Value) (G : Gd) : Prop := ∃ P : Parts, Mine 35 M₀ M v P.row ∧ (∀ p ∈ P, Mine 53 M₀ M p.1 p.2) ∧ P.map (·.2) = G
section
variable {M₀ M M' : Mem} {v : Value} {G : Gd}
theorem Gr.ext (e : Ext M M') (h : Gr M v G) : Gr M' v G := by
  obtain ⟨P, h1, h2, h3⟩ := h
  exact ⟨P, h1.ext e, fun p hp => (h2 p hp).ext e, h3⟩
theorem Gr.freeze (h : Gr M v G) : Gr M.freeze v G := h
theorem Gr.nil : Gr M (.slice none 0 0) [] := ⟨[], Sl.nil _, by simp, rfl⟩
theorem GrN.ext (e : Ext M M') (h : GrN M₀ M v G) : GrN M₀ M' v G := by
  obtain ⟨P, h1, h2, h3⟩ := h
  exact ⟨P, h1.ext e, fun p hp => (h2 p hp).ext e, h3⟩
theorem GrN.old {M₁ : Mem} (e : Ext M₁ M₀) (h : GrN M₀ M v G) : GrN M₁ M v G := by
  obtain ⟨P, h1, h2, h3⟩ := h
  exact ⟨P, h1.old e, fun p hp => (h2 p hp).old e, h3⟩
theorem GrN.gr (h : GrN M₀ M v G) : Gr M v G := by
  obtain ⟨P, h1, h2, h3⟩ := h
  exact ⟨P, h1.sl, fun p hp => (h2 p hp).sl, h3⟩
theorem Gr.shape (h : Gr M v G) : ∃ a cap, v = .slice a G.length cap := by
  obtain ⟨P, h1, _, rfl⟩ := h
  obtain ⟨a, cap, e⟩ := h1.shape
  exact ⟨a, cap, by simpa using e⟩
theorem step_lenG {N : Mem} {P : Value → Prop} (h : Gr M v G) (p : P (.int .i64 G.length)) : ∃ x, opSem (.len 1 (.const v)) [] N = some (x, N) ∧ P x := by
  obtain ⟨R, h1, _, rfl⟩ := h
  refine step_lenS h1 ?_
  simpa using p
theorem rdG (h : Gr M v G) {i : Int} {L : List Ce} (h0 : 0 ≤ i) (hi : G[i.toNat]? = some L) {j : IntKind} {P : Value → Value → Prop} (q : ∀ p x, Sl M x L → P p x) :
    ∃ p, opSem (.addrL 1 (.const v) (.const (.int j i))) [] M = some (p, M) ∧ ∃ x, opSem (.load none (.const p)) [] M = some (x, M) ∧ P p x := by
  obtain ⟨R, h1, h2, rfl⟩ := h
  rw [List.getElem?_map] at hi
  obtain ⟨⟨x, L'⟩, hr, hL⟩ := Option.map_eq_some_iff.1 hi
  cases hL
  exact rd1 h1 h0 (a := (⟨x⟩ : Vl)) (by show (R.map _)[_]? = _; rw [List.getElem?_map, hr]; rfl) rfl fun p => q p x (h2 _ (List.mem_of_getElem? hr))
theorem mine_keep {ty ty' : TypeId} {s x : Value} {R : List Vl} {L : List Ce} (hs : Mine ty M₀ M s R) (hx : Mine ty' M₀ M x L) (hne : ty' ≠ ty) (k : ∀ c, c < M.size → blk s ≠ some c → M'.get c = M.get c) : Mine ty' M₀ M' x L := by
  rcases hx with ⟨b, sp, rfl, h1, h2⟩ | hx
  · refine .inl ⟨b, sp, rfl, ?_, h2⟩
    rw [k b (Mem.lt_of_get h1)]
    · exact h1
    · rcases hs with ⟨b', sp', rfl, h3, _⟩ | ⟨_, rfl⟩
      · intro e
        simp only [blk] at e
        cases e
        rw [h1] at h3; exact hne (AObj.cells.inj (Option.some.inj h3)).2.1
      · simp [blk]
  · exact .inr hx
theorem appG {bytes : Nat} (e : Ext M₀ M) (hb : M₀.base ≤ M₀.size) {s x : Value} (hA : GrN M₀ M s G) {L : List Ce} (hL : Mine 53 M₀ M x L) (hn : G.length + 1 ≤ 2 ^ 20) (hby : bytes ≤ 2 ^ 20) {z : Value} :
    ∃ l M1, opSem (.lit 35 1 [z] [(0, (1, (.const x)))]) [] M = some (l, M1) ∧ Ext M M1 ∧ ∃ v M', opSem (.append 35 bytes 1 false (.const s) (.const l)) [] M1 = some (v, M') ∧ Ext M₀ M' ∧ GrN M₀ M' v (G ++ [L]) ∧ (∀ c, c < M.size → blk s ≠ some c → M'.get c = M.get c) := by
  obtain ⟨P, h1, h2, rfl⟩ := hA
  have hf : fillL [z] ([(0, 1, Operand.const x)].map fun p => (p.1, p.2.1, ev [] p.2.2)) = some (flat [(⟨x⟩ : Vl)]) := fill1 hL.sl.srcs
  obtain ⟨l, M1, hl, e1, n1⟩ : ∃ l M1, opSem (.lit 35 1 [z] [(0, (1, (.const x)))]) [] M = some (l, M1) ∧ Ext M M1 ∧ New 35 M M1 l [(⟨x⟩ : Vl)] := step_lit [(⟨x⟩ : Vl)] hf rfl fun v M' e n => ⟨e, n⟩
  have hPl : P.row.length = (P.map (·.2)).length := by simp
  obtain ⟨v, M', ha, e', m', k'⟩ : ∃ v M', opSem (.append 35 bytes 1 false (.const s) (.const l)) [] M1 = some (v, M') ∧ Ext M₀ M' ∧ Mine 35 M₀ M' v (P.row ++ [(⟨x⟩ : Vl)]) ∧ (∀ c, c < M1.size → blk s ≠ some c → M'.get c = M1.get c) :=
    step_appM (bytes := bytes) (e.trans e1) hb (h1.ext e1) n1.sl.srcs (by rw [hPl]; simp only [List.length_singleton]; omega) (by
      rw [hPl]; simp only [List.length_singleton]
      exact Nat.le_trans (Nat.mul_le_mul hn hby) (by decide)) fun v M' e' m' k' => ⟨e', m', k'⟩
  refine ⟨l, M1, hl, e1, v, M', ha, e', ⟨P ++ [(x, L)], ?_, ?_, by simp⟩, fun c hc hne => by rw [k' c (by have := e1.size; omega) hne, e1.get c hc]⟩
  · have : Parts.row (P ++ [(x, L)]) = P.row ++ [(⟨x⟩ : Vl)] := by simp [Parts.row]
    rw [this]; exact m'
  · intro p hp
    rcases List.mem_append.1 hp with hp | hp
    · exact mine_keep (h1.ext e1) ((h2 p hp).ext e1) (by decide) k'
    · rw [List.mem_singleton] at hp; subst hp
      exact mine_keep (h1.ext e1) (hL.ext e1) (by decide) k'
end
end Go.Proofs.Ytkelbhcaecojkaa.Run
namespace Go.Proofs.Ytkelbhcaecojkaa.Run
open Go Go.RowKit
set_option linter.unusedVariables false
set_option linter.unusedSimpArgs false
structure Ln where
  c : Int
  v : Value
instance : Enc Ln := ⟨2, fun a => [.int .u8 a.c, a.v], fun _ => rfl, by decide⟩
abbrev Lns := List (Ln × List Dr)
def LnsOK (M : Mem) (T : Lns) : Prop := ∀ p ∈ T, SlH M p.1.v p.2 ∧ ∀ d ∈ p.2, d.ok
theorem LnsOK.ext {M M' : Mem} (e : Ext M M') {T : Lns} (h : LnsOK M T) : LnsOK M' T := fun p hp => ⟨(h p hp).1.ext e, (h p hp).2⟩
abbrev Lns.row (T : Lns) : List Ln := T.map (·.1)
def linesF (c : Int) (T : Lns) : Lns := (T.take 8).map fun p => (⟨c % 31, p.1.v⟩, p.2)
def gridF (c : Int) (T : Lns) : Gd := (T.take 8).map fun p => rowF (c % 31) p.2 []
theorem gridF_len (c : Int) (T : Lns) : (gridF c T).length ≤ 8 := by simp [gridF]; omega
theorem LnsOK.lines {M : Mem} {T : Lns} (h : LnsOK M T) (c : Int) : LnsOK M (linesF c T) := by
  intro p hp
  obtain ⟨p', hp', rfl⟩ := List.mem_map.1 hp
  exact h p' (List.mem_of_mem_take hp')
theorem mine_lt {α : Type} [Enc α] {ty : TypeId} {M₀ M : Mem} {v : Value} {L : List α} (h : Mine ty M₀ M v L) {x : Nat} (hb : blk v = some x) : x < M.size := by
  rcases h with ⟨b, sp, rfl, h1, _⟩ | ⟨_, rfl⟩
  · simp only [blk] at hb; cases hb; exact Mem.lt_of_get h1
  · simp [blk] at hb
section
variable {M : Mem} {Q : Value → Mem → Prop}
abbrev lnI (P : Mem) (c : Int) (T : Lns) (v : Value) (b1 : Nat) : Nat → LS → Prop := fun k s => ∃ (i : Nat) (M' : Mem) (r : Value), s = ref12_Draft_lines_l1_s r (.int .i64 i) b1 (.int .u8 c) v [] M' ∧ Ext P M' ∧ Mine 26 P M' r (Lns.row (linesF c (T.take i))) ∧ i ≤ T.length ∧ i ≤ 8 ∧ k = 8 - i
theorem lines_W (hM : M.base ≤ M.size) {c : Int} (hc : 0 ≤ c ∧ c ≤ 255) {v : Value} {T : Lns} (h : SlH M v T.row) (hok : LnsOK M T) (q : ∀ M' r, Ext M M' → Mine 26 M M' r (Lns.row (linesF c T)) → Q r M') : W funs known (.func (.func n_ref12_Draft_lines) #[] #[]) [.agg #[.int .u8 c, v]] M Q := by
  have hTl : T.row.length = T.length := by simp
  refine ref12_Draft_lines_wp hM ⟨rfl, fun b1 P hb1 hP => ?_⟩
  have eP : Ext M P := Ext.push' hP
  have sP : P.size = M.size + 1 := by rw [hP]; rfl
  have kP := eP.ok hM
  refine ⟨ref12_Draft_lines_l1_m, lnI P c T v b1, ⟨8, 0, P, .slice none 0 0, rfl, Ext.refl _, .inr ⟨rfl, rfl⟩, Nat.zero_le _, by omega, rfl⟩, ?_⟩
  rintro k s ⟨i, M', r, rfl, eM, nM0, hi, hi8, rfl⟩
  have nM : Mine 26 P M' r (Lns.row (linesF c (T.take i))) := nM0
  clear nM0
  refine ref12_Draft_lines_l1_wp (I := lnI P c T v b1) (step_lenH h ?_)
  rw [hTl]
  have fin : ∀ {N : Mem}, N = M' → (¬ i < T.length ∨ ¬ i < 8) → Lns.row (linesF c (T.take i)) = Lns.row (linesF c T) := fun _ hno => by
    congr 1
    unfold linesF
    congr 1
    rw [List.take_take]
    rcases Nat.lt_or_ge i 8 with h8 | h8
    · rw [Nat.min_eq_right (by omega), List.take_of_length_le (by omega), List.take_of_length_le (by omega)]
    · rw [Nat.min_eq_left (by omega)]
  have done : (¬ i < T.length ∨ ¬ i < 8) → Q r M' := fun hno => q M' r (eP.trans eM) (by rw [← fin rfl hno]; exact nM.old eP)
  refine step_lss (wpIf.dec (fun g1 => step_lss (wpIf.dec (fun g2 => ?_) (fun g2 => ?_))) (fun g1 => ?_))
  · obtain ⟨p, hp⟩ : ∃ p, T[i]? = some p := ⟨_, List.getElem?_eq_getElem (by omega)⟩
    have hr : T.row[i]? = some p.1 := by show (T.map _)[i]? = _; rw [List.getElem?_map, hp]; rfl
    have hcl := (hok p (List.mem_of_getElem? hp)).1.cells
    refine ref12_Draft_lines_c2_wp (rd ((h.ext (eP.trans eM)).at hr) (by omega) (by rw [Int.toNat_natCast]; exact hr) fun _ => ⟨rfl, fun b3 M4 hb3 hM4 => ⟨⟨rfl, rfl, by decide⟩, fun M5 hM5 => ?_⟩⟩)
    have e4 : Ext M' M4 := Ext.push' hM4
    have s4 : M4.size = M'.size + 1 := by rw [hM4]; rfl
    have e5 : Ext M' M5 := hM5 ▸ e4.set (by omega) (by omega) _
    have s5 : M5.size = M4.size := by rw [hM5]; rfl
    refine step_rem8 (by omega) (by omega) ⟨_, rfl, rfl, by exact Nat.lt_of_lt_of_le (by decide) (Nat.le_refl 2), fun M7 hM7 => ?_⟩
    have e7 : Ext M' M7 := hM7 ▸ e5.set (by omega) (by omega) _
    have eM7 := eM.trans e7
    refine LGetN.as (.agg (Enc.enc (⟨c % 31, p.1.v⟩ : Ln)).toArray) (by exact Nat.le_refl 2) rfl ?_
    refine step_lit [(⟨c % 31, p.1.v⟩ : Ln)] rfl rfl fun w M11 e11 n11 => ⟨e11.keep _, ?_⟩
    have hl : (Lns.row (linesF c (T.take i))).length ≤ 8 := by simp [linesF]; omega
    refine step_appM (eM7.trans e11) kP ((nM.ext e7).ext e11) n11.sl.srcs (by simp only [List.length_singleton]; omega) (by simp only [List.length_singleton]; omega) fun v12 M13 e13 n13 k13 => ⟨?_, step_add (by omega) (by omega) ⟨8 - (i + 1), by omega, i + 1, M13, v12, rfl, e13, ?_, by omega, by omega, rfl⟩⟩
    · intro x hx hxs
      rcases List.mem_cons.1 hx with rfl | hx
      · exact keepE (by omega) (eM7.trans e11) e13 x List.mem_cons_self hxs
      · rw [List.mem_singleton] at hx; subst hx
        exact k13 _ hxs fun hb => by have := mine_lt nM hb; omega
    · have : Lns.row (linesF c (T.take (i + 1))) = Lns.row (linesF c (T.take i)) ++ [(⟨c % 31, p.1.v⟩ : Ln)] := by
        obtain ⟨h1, h2⟩ := List.getElem?_eq_some_iff.1 hp
        have lf : ∀ j, j ≤ 8 → Lns.row (linesF c (T.take j)) = (T.take j).map fun p => (⟨c % 31, p.1.v⟩ : Ln) := fun j hj => by
          simp only [linesF, Lns.row, List.take_take, Nat.min_eq_right hj, List.map_map]; rfl
        rw [lf _ (by omega), lf _ (by omega), List.take_succ_eq_append_getElem h1, h2, List.map_append]; rfl
      rw [this]; exact n13
  · exact blockK.hit (ref12_Draft_lines_c0_wp (done (.inr (by omega))))
  · exact blockK.hit (ref12_Draft_lines_c0_wp (done (.inl (by omega))))
abbrev gdI (P : Mem) (c : Int) (T : Lns) (w v : Value) (b1 : Nat) : Nat → LS → Prop := fun k s => ∃ (i : Nat) (M' : Mem) (r : Value), s = ref12_Draft_Grid_l1_s r w (.int .i64 i) b1 (.int .u8 c) v [] M' ∧ Ext P M' ∧ GrN P M' r ((T.take i).map fun p => rowF p.1.c p.2 []) ∧ i ≤ T.length ∧ k = T.length - i
theorem grid_W (hM : M.base ≤ M.size) {c : Int} (hc : 0 ≤ c ∧ c ≤ 255) {v : Value} {T : Lns} (h : SlH M v T.row) (hok : LnsOK M T) (q : ∀ M' r, Ext M M' → GrN M M' r (gridF c T) → Q r M') : W funs known (.func (.func n_ref12_Draft_Grid) #[] #[]) [.agg #[.int .u8 c, v]] M Q := by
  refine ref12_Draft_Grid_wp hM ⟨rfl, fun b1 P hb1 hP => ?_⟩
  have eP : Ext M P := Ext.push' hP
  have sP : P.size = M.size + 1 := by rw [hP]; rfl
  have kP := eP.ok hM
  refine lines_W kP hc (h.ext eP) (hok.ext eP) fun P2 w e2 n2 => ⟨e2.keep _, ?_⟩
  have k2 := e2.ok kP
  have okT := (hok.lines c).ext (eP.trans e2)
  have hgr : gridF c T = (linesF c T).map fun p => rowF p.1.c p.2 [] := by simp only [gridF, linesF, List.map_map]; rfl
  have hc31 : ∀ p ∈ linesF c T, 0 ≤ p.1.c ∧ p.1.c ≤ 255 := fun p hp => by
    obtain ⟨p', _, rfl⟩ := List.mem_map.1 hp
    show 0 ≤ c % 31 ∧ c % 31 ≤ 255
    omega
  have hlen8 : (linesF c T).length ≤ 8 := by simp [linesF]; omega
  rw [hgr] at q
  generalize linesF c T = U at okT n2 hc31 q hlen8
  have hUl : U.row.length = U.length := by simp
  refine ⟨ref12_Draft_Grid_l1_m, gdI P2 c U w v b1, ⟨U.length, 0, P2, .slice none 0 0, rfl, Ext.refl _, ⟨[], .inr ⟨rfl, rfl⟩, by simp, rfl⟩, Nat.zero_le _, rfl⟩, ?_⟩
  rintro k s ⟨i, M', r, rfl, eM, nM0, hi, rfl⟩
  have nM : GrN P2 M' r ((U.take i).map fun p => rowF p.1.c p.2 []) := nM0
  clear nM0
  refine ref12_Draft_Grid_l1_wp (I := gdI P2 c U w v b1) (step_lenS n2.sl ?_)
  rw [hUl]
  refine step_lss (wpIf.dec (fun g1 => ?_) (fun g1 => ?_))
  · obtain ⟨p, hp⟩ : ∃ p, U[i]? = some p := ⟨_, List.getElem?_eq_getElem (by omega)⟩
    have hr : U.row[i]? = some p.1 := by show (U.map _)[i]? = _; rw [List.getElem?_map, hp]; rfl
    obtain ⟨hsl, hd⟩ := okT p (List.mem_of_getElem? hp)
    have kM := eM.ok k2
    refine rd (n2.sl.ext eM) (by omega) (by rw [Int.toNat_natCast]; exact hr) fun _ => row_W kM (hc31 p (List.mem_of_getElem? hp)) (hsl.ext eM) hd fun M6 x e6 n6 => ⟨e6.keep _, ?_⟩
    have e06 := eM.trans e6
    obtain ⟨l, M8, hl, e8, v9, M10, ha, e10, g10, k10⟩ := appG (bytes := 24) (z := .slice none 0 0) e06 k2 (nM.ext e6) (n6.old eM) (by simp; omega) (by decide)
    have hb12 : b1 < P2.size := by have := e2.size; omega
    refine ⟨l, M8, hl, e8.keep _, v9, M10, ha, keepE hb12 (e06.trans e8) e10, step_add (by omega) (by omega) ⟨U.length - (i + 1), by omega, i + 1, M10, v9, rfl, e10, ?_, by omega, rfl⟩⟩
    obtain ⟨h1, h2⟩ := List.getElem?_eq_some_iff.1 hp
    rw [List.take_succ_eq_append_getElem h1, h2, List.map_append]
    exact g10
  · have : i = U.length := by omega
    subst this
    rw [List.take_length] at nM
    exact blockK.hit (ref12_Draft_Grid_c0_wp (q M' r ((eP.trans e2).trans eM) (nM.old (eP.trans e2))))
abbrev gsI (M : Mem) (A B : Gd) (v w : Value) : Nat → LS → Prop := fun k s => ∃ (i : Nat), s = ref12_Same_l1_s v w (.int .i64 i) [] M ∧ i ≤ A.length ∧ A.take i = B.take i ∧ k = A.length - i
theorem gsame_W (hM : M.base ≤ M.size) {v w : Value} {A B : Gd} (h : Gr M v A) (h' : Gr M w B) (hl : ∀ L ∈ A, L.length ≤ 2 ^ 30) (hn : A.length ≤ 2 ^ 30) (q : Q (.bool (decide (A = B))) M) : W funs known (.func (.func n_ref12_Same) #[] #[]) [v, w] M Q := by
  obtain ⟨a, cap, rfl⟩ := h.shape
  obtain ⟨a', cap', rfl⟩ := h'.shape
  refine ref12_Same_wp hM (step_len (step_len (step_neq (wpIf.dec (fun h1 => ?_) (fun h1 => ?_)))))
  · exact q_of q (decide_eq_false fun e => h1 (by rw [e]))
  have hAB : A.length = B.length := by omega
  refine ⟨ref12_Same_l1_m, gsI M A B (.slice a A.length cap) (.slice a' B.length cap'), ⟨A.length, 0, rfl, Nat.zero_le _, by simp, rfl⟩, ?_⟩
  rintro k s ⟨i, rfl, hi, ht, rfl⟩
  refine ref12_Same_l1_wp (I := gsI M A B (.slice a A.length cap) (.slice a' B.length cap')) (step_len (step_lss (wpIf.dec (fun g1 => ?_) (fun g1 => ?_))))
  · obtain ⟨x, hx⟩ : ∃ x, A[i]? = some x := ⟨_, List.getElem?_eq_getElem (by omega)⟩
    obtain ⟨y, hy⟩ : ∃ y, B[i]? = some y := ⟨_, List.getElem?_eq_getElem (by omega)⟩
    refine rdG h (by omega) (by rw [Int.toNat_natCast]; exact hx) fun _ vx sx => rdG h' (by omega) (by rw [Int.toNat_natCast]; exact hy) fun _ vy sy => ?_
    refine same_W hM sx sy (Nat.le_trans (hl x (List.mem_of_getElem? hx)) (by decide)) ?_
    by_cases he : x = y
    · refine ⟨.bool false, by rw [decide_eq_true he]; rfl, wpIf.ff (step_add (by omega) (by omega) ⟨A.length - (i + 1), by omega, i + 1, rfl, by omega, ?_, rfl⟩)⟩
      obtain ⟨p1, p2⟩ := List.getElem?_eq_some_iff.1 hx
      obtain ⟨q1, q2⟩ := List.getElem?_eq_some_iff.1 hy
      rw [List.take_succ_eq_append_getElem p1, List.take_succ_eq_append_getElem q1, ht, p2, q2, he]
    · refine ⟨.bool true, by rw [decide_eq_false he]; rfl, wpIf.tt ?_⟩
      refine q_of q (b := false) (decide_eq_false fun e => he ?_)
      rw [e, hy] at hx; exact (Option.some.inj hx).symm
  · have : i = A.length := by omega
    subst this
    refine blockK.hit (ref12_Same_c0_wp (q_of q (decide_eq_true ?_)))
    rwa [List.take_length, hAB, List.take_length] at ht
end
end Go.Proofs.Ytkelbhcaecojkaa.Run
