
/- Grids that are drawn (chapter 12's kit), and whether two grids are alike. -/
import Derived.Test.YtklnbkacnghdnaaGrid
import Derived.Test.YtklnbkacnghdnaaVcG
namespace Go.Proofs.Ytklnbkacnghdnaa.Run
open Go Go.RowKit
set_option linter.unusedVariables false
set_option linter.unusedSimpArgs false
structure Ln where
  c : Int
  v : Value
instance : Enc Ln := ⟨2, fun a => [.int .u8 a.c, a.v], fun _ => rfl, by decide⟩
abbrev Lns := List (Ln × List Dr)
def LnsOK (M : Mem) (T : Lns) : Prop := ∀ p ∈ T, SlH M p.1.v p.2 ∧ ∀ d ∈ p.2, d.ok
theorem LnsOK.ext {M M' : Mem} (e : Ext M M') {T : Lns} (h : LnsOK M T) : LnsOK M' T := fun p hp => ⟨(h p hp).1.ext e, (h p hp).2⟩
abbrev Lns.row (T : Lns) : List Ln := T.map (·.1)
def linesF (c : Int) (T : Lns) : Lns := (T.take 8).map fun p => (⟨c % 31, p.1.v⟩, p.2)
def gridF (c : Int) (T : Lns) : Gd := (T.take 8).map fun p => rowF (c % 31) p.2 []
theorem gridF_len (c : Int) (T : Lns) : (gridF c T).length ≤ 8 := by simp [gridF]; omega
theorem LnsOK.lines {M : Mem} {T : Lns} (h : LnsOK M T) (c : Int) : LnsOK M (linesF c T) := by
  intro p hp
  obtain ⟨p', hp', rfl⟩ := List.mem_map.1 hp
  exact h p' (List.mem_of_mem_take hp')
theorem mine_lt {α : Type} [Enc α] {ty : TypeId} {M₀ M : Mem} {v : Value} {L : List α} (h : Mine ty M₀ M v L) {x : Nat} (hb : blk v = some x) : x < M.size := by
  rcases h with ⟨b, sp, rfl, h1, _⟩ | ⟨_, rfl⟩
  · simp only [blk] at hb; cases hb; exact Mem.lt_of_get h1
  · simp [blk] at hb
section
variable {M : Mem} {Q : Value → Mem → Prop}
abbrev lnI (P : Mem) (c : Int) (T : Lns) (v : Value) (b1 : Nat) : Nat → LS → Prop := fun k s => ∃ (i : Nat) (M' : Mem) (r : Value), s = ref12_Draft_lines_l1_s r (.int .i64 i) b1 (.int .u8 c) v [] M' ∧ Ext P M' ∧ Mine 73 P M' r (Lns.row (linesF c (T.take i))) ∧ i ≤ T.length ∧ i ≤ 8 ∧ k = 8 - i
theorem lines_W (hM : M.base ≤ M.size) {c : Int} (hc : 0 ≤ c ∧ c ≤ 255) {v : Value} {T : Lns} (h : SlH M v T.row) (hok : LnsOK M T) (q : ∀ M' r, Ext M M' → Mine 73 M M' r (Lns.row (linesF c T)) → Q r M') : W funs known (.func (.func n_ref12_Draft_lines) #[] #[]) [.agg #[.int .u8 c, v]] M Q := by
  have hTl : T.row.length = T.length := by simp
  refine ref12_Draft_lines_wp hM ⟨rfl, fun b1 P hb1 hP => ?_⟩
  have eP : Ext M P := Ext.push' hP
  have sP : P.size = M.size + 1 := by rw [hP]; rfl
  have kP := eP.ok hM
  refine ⟨ref12_Draft_lines_l1_m, lnI P c T v b1, ⟨8, 0, P, .slice none 0 0, rfl, Ext.refl _, .inr ⟨rfl, rfl⟩, Nat.zero_le _, by omega, rfl⟩, ?_⟩
  rintro k s ⟨i, M', r, rfl, eM, nM0, hi, hi8, rfl⟩
  have nM : Mine 73 P M' r (Lns.row (linesF c (T.take i))) := nM0
  clear nM0
  refine ref12_Draft_lines_l1_wp (I := lnI P c T v b1) (step_lenH h ?_)
  rw [hTl]
  have fin : ∀ {N : Mem}, N = M' → (¬ i < T.length ∨ ¬ i < 8) → Lns.row (linesF c (T.take i)) = Lns.row (linesF c T) := fun _ hno => by
    congr 1
    unfold linesF
    congr 1
    rw [List.take_take]
    rcases Nat.lt_or_ge i 8 with h8 | h8
    · rw [Nat.min_eq_right (by omega), List.take_of_length_le (by omega), List.take_of_length_le (by omega)]
    · rw [Nat.min_eq_left (by omega)]
  have done : (¬ i < T.length ∨ ¬ i < 8) → Q r M' := fun hno => q M' r (eP.trans eM) (by rw [← fin rfl hno]; exact nM.old eP)
  refine step_lss (wpIf.dec (fun g1 => step_lss (wpIf.dec (fun g2 => ?_) (fun g2 => ?_))) (fun g1 => ?_))
  · obtain ⟨p, hp⟩ : ∃ p, T[i]? = some p := ⟨_, List.getElem?_eq_getElem (by omega)⟩
    have hr : T.row[i]? = some p.1 := by show (T.map _)[i]? = _; rw [List.getElem?_map, hp]; rfl
    have hcl := (hok p (List.mem_of_getElem? hp)).1.cells
    refine ref12_Draft_lines_c2_wp (rd ((h.ext (eP.trans eM)).at hr) (by omega) (by rw [Int.toNat_natCast]; exact hr) fun _ => ⟨rfl, fun b3 M4 hb3 hM4 => ⟨⟨rfl, rfl, by decide⟩, fun M5 hM5 => ?_⟩⟩)
    have e4 : Ext M' M4 := Ext.push' hM4
    have s4 : M4.size = M'.size + 1 := by rw [hM4]; rfl
    have e5 : Ext M' M5 := hM5 ▸ e4.set (by omega) (by omega) _
    have s5 : M5.size = M4.size := by rw [hM5]; rfl
    refine step_rem8 (by omega) (by omega) ⟨_, rfl, rfl, by exact Nat.lt_of_lt_of_le (by decide) (Nat.le_refl 2), fun M7 hM7 => ?_⟩
    have e7 : Ext M' M7 := hM7 ▸ e5.set (by omega) (by omega) _
    have eM7 := eM.trans e7
    refine LGetN.as (.agg (Enc.enc (⟨c % 31, p.1.v⟩ : Ln)).toArray) (by exact Nat.le_refl 2) rfl ?_
    refine step_lit [(⟨c % 31, p.1.v⟩ : Ln)] rfl rfl fun w M11 e11 n11 => ⟨e11.keep _, ?_⟩
    have hl : (Lns.row (linesF c (T.take i))).length ≤ 8 := by simp [linesF]; omega
    refine step_appM (eM7.trans e11) kP ((nM.ext e7).ext e11) n11.sl.srcs (by simp only [List.length_singleton]; omega) (by simp only [List.length_singleton]; omega) fun v12 M13 e13 n13 k13 => ⟨?_, step_add (by omega) (by omega) ⟨8 - (i + 1), by omega, i + 1, M13, v12, rfl, e13, ?_, by omega, by omega, rfl⟩⟩
    · intro x hx hxs
      rcases List.mem_cons.1 hx with rfl | hx
      · exact keepE (by omega) (eM7.trans e11) e13 x List.mem_cons_self hxs
      · rw [List.mem_singleton] at hx; subst hx
        exact k13 _ hxs fun hb => by have := mine_lt nM hb; omega
    · have : Lns.row (linesF c (T.take (i + 1))) = Lns.row (linesF c (T.take i)) ++ [(⟨c % 31, p.1.v⟩ : Ln)] := by
        obtain ⟨h1, h2⟩ := List.getElem?_eq_some_iff.1 hp
        have lf : ∀ j, j ≤ 8 → Lns.row (linesF c (T.take j)) = (T.take j).map fun p => (⟨c % 31, p.1.v⟩ : Ln) := fun j hj => by
          simp only [linesF, Lns.row, List.take_take, Nat.min_eq_right hj, List.map_map]; rfl
        rw [lf _ (by omega), lf _ (by omega), List.take_succ_eq_append_getElem h1, h2, List.map_append]; rfl
      rw [this]; exact n13
  · exact blockK.hit (ref12_Draft_lines_c0_wp (done (.inr (by omega))))
  · exact blockK.hit (ref12_Draft_lines_c0_wp (done (.inl (by omega))))
abbrev gdI (P : Mem) (c : Int) (T : Lns) (w v : Value) (b1 : Nat) : Nat → LS → Prop := fun k s => ∃ (i : Nat) (M' : Mem) (r : Value), s = ref12_Draft_Grid_l1_s r w (.int .i64 i) b1 (.int .u8 c) v [] M' ∧ Ext P M' ∧ GrN P M' r ((T.take i).map fun p => rowF p.1.c p.2 []) ∧ i ≤ T.length ∧ k = T.length - i
theorem grid_W (hM : M.base ≤ M.size) {c : Int} (hc : 0 ≤ c ∧ c ≤ 255) {v : Value} {T : Lns} (h : SlH M v T.row) (hok : LnsOK M T) (q : ∀ M' r, Ext M M' → GrN M M' r (gridF c T) → Q r M') : W funs known (.func (.func n_ref12_Draft_Grid) #[] #[]) [.agg #[.int .u8 c, v]] M Q := by
  refine ref12_Draft_Grid_wp hM ⟨rfl, fun b1 P hb1 hP => ?_⟩
  have eP : Ext M P := Ext.push' hP
  have sP : P.size = M.size + 1 := by rw [hP]; rfl
  have kP := eP.ok hM
  refine lines_W kP hc (h.ext eP) (hok.ext eP) fun P2 w e2 n2 => ⟨e2.keep _, ?_⟩
  have k2 := e2.ok kP
  have okT := (hok.lines c).ext (eP.trans e2)
  have hgr : gridF c T = (linesF c T).map fun p => rowF p.1.c p.2 [] := by simp only [gridF, linesF, List.map_map]; rfl
  have hc31 : ∀ p ∈ linesF c T, 0 ≤ p.1.c ∧ p.1.c ≤ 255 := fun p hp => by
    obtain ⟨p', _, rfl⟩ := List.mem_map.1 hp
    show 0 ≤ c % 31 ∧ c % 31 ≤ 255
    omega
  have hlen8 : (linesF c T).length ≤ 8 := by simp [linesF]; omega
  rw [hgr] at q
  generalize linesF c T = U at okT n2 hc31 q hlen8
  have hUl : U.row.length = U.length := by simp
  refine ⟨ref12_Draft_Grid_l1_m, gdI P2 c U w v b1, ⟨U.length, 0, P2, .slice none 0 0, rfl, Ext.refl _, ⟨[], .inr ⟨rfl, rfl⟩, by simp, rfl⟩, Nat.zero_le _, rfl⟩, ?_⟩
  rintro k s ⟨i, M', r, rfl, eM, nM0, hi, rfl⟩
  have nM : GrN P2 M' r ((U.take i).map fun p => rowF p.1.c p.2 []) := nM0
  clear nM0
  refine ref12_Draft_Grid_l1_wp (I := gdI P2 c U w v b1) (step_lenS n2.sl ?_)
  rw [hUl]
  refine step_lss (wpIf.dec (fun g1 => ?_) (fun g1 => ?_))
  · obtain ⟨p, hp⟩ : ∃ p, U[i]? = some p := ⟨_, List.getElem?_eq_getElem (by omega)⟩
    have hr : U.row[i]? = some p.1 := by show (U.map _)[i]? = _; rw [List.getElem?_map, hp]; rfl
    obtain ⟨hsl, hd⟩ := okT p (List.mem_of_getElem? hp)
    have kM := eM.ok k2
    refine rd (n2.sl.ext eM) (by omega) (by rw [Int.toNat_natCast]; exact hr) fun _ => row_W kM (hc31 p (List.mem_of_getElem? hp)) (hsl.ext eM) hd fun M6 x e6 n6 => ⟨e6.keep _, ?_⟩
    have e06 := eM.trans e6
    obtain ⟨l, M8, hl, e8, v9, M10, ha, e10, g10, k10⟩ := appG (bytes := 24) (z := .slice none 0 0) e06 k2 (nM.ext e6) (n6.old eM) (by simp; omega) (by decide)
    have hb12 : b1 < P2.size := by have := e2.size; omega
    refine ⟨l, M8, hl, e8.keep _, v9, M10, ha, keepE hb12 (e06.trans e8) e10, step_add (by omega) (by omega) ⟨U.length - (i + 1), by omega, i + 1, M10, v9, rfl, e10, ?_, by omega, rfl⟩⟩
    obtain ⟨h1, h2⟩ := List.getElem?_eq_some_iff.1 hp
    rw [List.take_succ_eq_append_getElem h1, h2, List.map_append]
    exact g10
  · have : i = U.length := by omega
    subst this
    rw [List.take_length] at nM
    exact blockK.hit (ref12_Draft_Grid_c0_wp (q M' r ((eP.trans e2).trans eM) (nM.old (eP.trans e2))))
end
end Go.Proofs.Ytklnbkacnghdnaa.Run
