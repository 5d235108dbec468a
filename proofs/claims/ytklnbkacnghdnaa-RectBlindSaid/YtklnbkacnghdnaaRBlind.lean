/- The law RectBlind of chapter 12, as a run of this session's own interpreter. -/
import Derived.Test.YtklnbkacnghdnaaLowG
namespace Go.Proofs.Ytklnbkacnghdnaa.Run
open Go Go.RowKit
set_option linter.unusedVariables false
set_option linter.unusedSimpArgs false

section
variable {M : Mem} {Q : Value → Mem → Prop}
abbrev bgI (P : Mem) (b1 b3 : Nat) (c c2 : Int) (dv ov : Value) (T : List An) (lv : Value) (C : Nat) : Nat → LS → Prop := fun k s => ∃ (i : Nat) (M' : Mem) (r t : Value) (A B : Gd), s = law12_RectBlind_l1_s lv r t (.int .i64 i) b1 (.int .u8 c) dv b3 (.int .u8 c2) ov [] M' ∧ Ext P M' ∧ GrN P M' r A ∧ GrN P M' t B ∧ Flush A C ∧ Flush B C ∧ WhG A ∧ WhG B ∧ LbG A ∧ LowG A B ∧ A.length ≤ 8 ∧ i ≤ T.length ∧ k = T.length - i

theorem rblind_W (hM : M.base ≤ M.size) {c c2 : Int} (hc : 0 ≤ c ∧ c ≤ 255) {dv ov lv : Value} {X Y : Lns} {T : List An} (h : Sl M dv X.row) (hok : LnsOK M X) (h' : Sl M ov Y.row) (hok' : LnsOK M Y) (hT : Sl M lv T) (okT : ∀ a ∈ T, a.ok) (q : ∀ M', Q (.bool true) M') :
    W funs known (.func (.func n_law12_RectBlind) #[] #[]) [.agg #[.int .u8 c, dv], .agg #[.int .u8 c2, ov], lv] M Q := by
  have hd : SlH M dv X.row := .inl h
  have hov : SlH M ov Y.row := .inl h'
  obtain ⟨a0, c0, rfl⟩ := h.shape
  obtain ⟨a1, c1, rfl⟩ := h'.shape
  obtain ⟨a2, c2', rfl⟩ := hT.shape
  clear h h'
  generalize hdv : Value.slice a0 X.row.length c0 = dv at *
  generalize hovv : Value.slice a1 Y.row.length c1 = ov at *
  subst hdv hovv
  refine law12_RectBlind_wp hM ⟨rfl, fun b1 P0 hb1 hP0 => ⟨rfl, fun b3 P hb3 hP => works12_W ⟨KeepB.refl _ _, _, rfl, wpIf.ff ?_⟩⟩⟩
  have eP : Ext M P := (Ext.push' hP0).trans (Ext.push' hP)
  have kP := eP.ok hM
  refine grid_W (freeze_ok P) hc (hd.ext eP).freeze (hok.ext eP) fun M7 r e7 n7 => ⟨e7.keepF _, ?_⟩
  have e07 := Ext.thaw e7
  refine gother_W (e07.ok kP) hc ((hd.ext eP).ext e07) ((hok.ext eP).ext e07) ((hov.ext eP).ext e07) ((hok'.ext eP).ext e07) fun M9 t e9 n9 => ⟨e9.keep _, ?_⟩
  have e09 := e07.trans e9
  have n7 : GrN P M9 r (gridF c X) := (show GrN P (M7.thaw P.base) r (gridF c X) from n7).ext e9
  have n9 : GrN P M9 t (otherG c X Y) := n9.old e07
  obtain ⟨C, hCd⟩ : ∃ C : Nat, C = (c % 31).toNat := ⟨_, rfl⟩
  have hC2 : C ≤ 2 ^ 30 := by omega
  refine ⟨law12_RectBlind_l1_m, bgI P b1 b3 c c2 (.slice a0 X.row.length c0) (.slice a1 Y.row.length c1) T (.slice a2 T.length c2') C, ⟨T.length, 0, M9, r, t, gridF c X, otherG c X Y, rfl, e09, n7, n9, hCd ▸ grid_flush c X, hCd ▸ other_flush c X Y, (grid_ok c X).1, other_wh c X Y, (grid_ok c X).2, other_low c X Y, gridF_len c X, Nat.zero_le _, rfl⟩, ?_⟩
  clear n7 n9 e7 e07 e9 e09
  rintro k s ⟨i, M', r, t, A, B, rfl, eM, nA0, nB0, fA, fB, wA, wB, lb, low, hlen, hi, rfl⟩
  have nA : GrN P M' r A := nA0
  have nB : GrN P M' t B := nB0
  clear nA0 nB0
  refine law12_RectBlind_l1_wp (I := bgI P b1 b3 c c2 (.slice a0 X.row.length c0) (.slice a1 Y.row.length c1) T (.slice a2 T.length c2') C) ?_
  have kM := eM.ok kP
  have hll := low.len
  refine step_len (step_lss (wpIf.dec (fun h1 => step_lss (wpIf.dec (fun h2 => ?_) (fun h2 => ?_))) (fun h1 => ?_)))
  · obtain ⟨a, ha⟩ : ∃ a, T[i]? = some a := ⟨_, List.getElem?_eq_getElem (by omega)⟩
    have oka := okT a (List.mem_of_getElem? ha)
    have ra : T[(i : Int).toNat]? = some a := by rw [Int.toNat_natCast]; exact ha
    have e0 := eP.trans eM
    refine law12_RectBlind_c2_wp (I := bgI P b1 b3 c c2 (.slice a0 X.row.length c0) (.slice a1 Y.row.length c1) T (.slice a2 T.length c2') C) ?_
    refine rd (hT.ext e0) (by omega) ra fun _ => does_W kM oka nA.gr fA hC2 (by omega) fun M4 r' e4 n4 => ⟨e4.keep _, ?_⟩
    have t4 := e0.trans e4
    refine rd (hT.ext t4) (by omega) ra fun _ => does_W (t4.ok hM) oka (nB.gr.ext e4) fB hC2 (by omega) fun M8 t' e8 n8 => ⟨e8.keep _, ?_⟩
    have t8 := t4.trans e8
    have low' := does_low wA wB fA fB low a
    have fA' := does_flush fA a
    have fB' := does_flush fB a
    obtain ⟨wA', lb'⟩ := does_ok fA wA lb a
    have wB' : WhG (doesG a B) := by
      unfold doesG
      split
      · exact changed_all wB fun i hi _ _ => (wB _ (getD_mem hi)).erase _ _ rfl
      · split
        · exact changed_all wB fun i hi _ _ => (wB _ (getD_mem hi)).erase _ _ rfl
        · exact changed_all wB fun i hi h1 h2 => by
            obtain ⟨h3, h4⟩ := from_lt fB _ _ _ h1 h2
            exact copyRow_wh h4 (getD_len fB h3) (getD_len fB hi) (wB _ (getD_mem h3)) (wB _ (getD_mem hi))
    have lA := doesG_len a A
    have lB := doesG_len a B
    have gA : GrN P M8 r' (doesG a A) := (n4.ext e8).old eM
    have gB : GrN P M8 t' (doesG a B) := n8.old (eM.trans e4)
    have e48 := (eM.trans e4).trans e8
    have sums := sumG_low fA' fB' low' lb' a.rect
    clear nA nB n4 n8
    generalize doesG a A = A' at *
    generalize doesG a B = B' at *
    refine glow_W (t8.ok hM) gA.gr gB.gr (by omega) (fun L hL => by rw [fA' L hL]; exact hC2) low' ⟨KeepB.refl _ _, _, rfl, wpIf.ff ?_⟩
    refine rd (hT.ext t8) (by omega) ra fun _ => rect1_W (t8.ok hM) fun M15 e15 => ⟨e15.keep _, ?_⟩
    have t15 := t8.trans e15
    refine rsum_W (t15.ok hM) (gA.gr.ext e15) fA' hC2 (by omega) oka.rect fun M17 e17 => ⟨e17.keep _, .int .u16 (sumG A' a.rect).1, rfl, .int .u8 (sumG A' a.rect).2, rfl, ?_⟩
    have t17 := t15.trans e17
    refine rd (hT.ext t17) (by omega) ra fun _ => rect1_W (t17.ok hM) fun M23 e23 => ⟨e23.keep _, ?_⟩
    have t23 := t17.trans e23
    have e823 := (e15.trans e17).trans e23
    refine rsum_W (t23.ok hM) (gB.gr.ext e823) fB' hC2 (by omega) oka.rect fun M25 e25 => ⟨e25.keep _, .int .u16 (sumG B' a.rect).1, rfl, .int .u8 (sumG B' a.rect).2, rfl, ?_⟩
    have e825 := e823.trans e25
    have next : ∃ j, j < T.length - i ∧ bgI P b1 b3 c c2 (.slice a0 X.row.length c0) (.slice a1 Y.row.length c1) T (.slice a2 T.length c2') C j (law12_RectBlind_l1_s (.slice a2 T.length c2') r' t' (.int .i64 ((i : Int) + 1)) b1 (.int .u8 c) (.slice a0 X.row.length c0) b3 (.int .u8 c2) (.slice a1 Y.row.length c1) [] M25) :=
      ⟨T.length - (i + 1), by omega, i + 1, M25, r', t', A', B', rfl, e48.trans e825, gA.ext e825, gB.ext e825, fA', fB', wA', wB', lb', low', by omega, by omega, rfl⟩
    refine s_neF (fun hh => hh sums.1) (wpIf.ff (step_eql (wpIf.dec (fun h0 => ?_) (fun h0 => ?_))))
    · exact s_neF (fun hh => hh (sums.2 h0)) (wpIf.ff (step_add (by omega) (by omega) next))
    · exact step_add (by omega) (by omega) next
  · exact blockK.hit (law12_RectBlind_c0_wp (q _))
  · exact blockK.hit (law12_RectBlind_c0_wp (q _))
end
end Go.Proofs.Ytklnbkacnghdnaa.Run
