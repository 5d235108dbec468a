/- The law RowBlind of chapter 10, as a run of this session's own interpreter. -/
import Derived.Test.YtokmjepnohjmdaaRowPB
import Derived.Test.YtokmjepnohjmdaaVcD
namespace Go.Proofs.Ytokmjepnohjmdaa.Run
open Go Go.RowKit
set_option linter.unusedVariables false
set_option linter.unusedSimpArgs false

section
variable {M : Mem} {Q : Value → Mem → Prop}
theorem works_W {M : Mem} (h : Q (.bool true) M) : W funs known (.func (.func n_law10_works) #[] #[]) [] M Q := W_known rfl h

abbrev loI (M : Mem) (A B : List Ce) (v w : Value) : Nat → LS → Prop := fun k s => ∃ (i : Nat), s = law10_low_l1_s v w (.int .i64 i) [] M ∧ i ≤ A.length ∧ k = A.length - i
theorem low_W (hM : M.base ≤ M.size) {v w : Value} {A B : List Ce} (h : Sl M v A) (h' : Sl M w B) (hL : A.length ≤ 2 ^ 40) (hlow : Low A B) (q : Q (.bool true) M) : W funs known (.func (.func n_law10_low) #[] #[]) [v, w] M Q := by
  obtain ⟨ad, cap, rfl⟩ := h.shape
  obtain ⟨ad', cap', rfl⟩ := h'.shape
  have hl := hlow.len
  refine law10_low_wp hM (step_len (step_len (step_neq (wpIf.dec (fun h1 => absurd (by omega) h1) (fun h1 => ?_)))))
  refine ⟨law10_low_l1_m, loI M A B (.slice ad A.length cap) (.slice ad' B.length cap'), ⟨A.length, 0, rfl, Nat.zero_le _, rfl⟩, ?_⟩
  rintro k s ⟨i, rfl, hi, rfl⟩
  refine law10_low_l1_wp (I := loI M A B (.slice ad A.length cap) (.slice ad' B.length cap')) ?_
  refine step_len (step_lss (wpIf.dec (fun h2 => ?_) (fun h2 => ?_)))
  · have hlt : i < A.length := by omega
    obtain ⟨a, ha⟩ : ∃ a, A[i]? = some a := ⟨_, List.getElem?_eq_getElem hlt⟩
    obtain ⟨b, hb, r⟩ := hlow.get ha
    refine rd_f h (by omega) (by rw [Int.toNat_natCast]; exact ha) (f := 13) rfl fun _ _ => rd_f h' (by omega) (by rw [Int.toNat_natCast]; exact hb) (f := 13) rfl fun _ _ => step_neq (wpIf.dec (fun h3 => absurd r.1 h3) (fun h3 => ?_))
    refine rd_f h (by omega) (by rw [Int.toNat_natCast]; exact ha) (f := 13) rfl fun _ _ => step_eql (wpIf.dec (fun h4 => ?_) (fun h4 => ?_))
    · refine rd h (by omega) (by rw [Int.toNat_natCast]; exact ha) fun _ => rd h' (by omega) (by rw [Int.toNat_natCast]; exact hb) fun _ => step_neqCe (wpIf.dec (fun h5 => absurd (r.2 h4) h5) (fun h5 => ?_))
      exact step_add (by omega) (by omega) ⟨A.length - (i + 1), by omega, i + 1, rfl, by omega, rfl⟩
    · exact step_add (by omega) (by omega) ⟨A.length - (i + 1), by omega, i + 1, rfl, by omega, rfl⟩
  · exact blockK.hit (law10_low_c0_wp q)

abbrev blI (P : Mem) (b1 : Nat) (c : Int) (dv : Value) (T : List Ac) (lv : Value) : Nat → LS → Prop := fun k s => ∃ (i : Nat) (M' : Mem) (r t : Value) (L K : List Ce), s = law10_RowBlind_l1_s lv r t (.int .i64 i) b1 (.int .u8 c) dv [] M' ∧ Ext P M' ∧ Mine 37 P M' r L ∧ Mine 37 P M' t K ∧ Wh L ∧ Wh K ∧ Lb L ∧ Low L K ∧ L.length ≤ 40 ∧ i ≤ T.length ∧ k = T.length - i

theorem blind_W (hM : M.base ≤ M.size) {c : Int} (hc : 0 ≤ c ∧ c ≤ 255) {dv ov lv : Value} {D O : List Dr} {T : List Ac} (hD : Sl M dv D) (okD : ∀ d ∈ D, d.ok) (hO : Sl M ov O) (okO : ∀ d ∈ O, d.ok) (hT : Sl M lv T) (okT : ∀ a ∈ T, a.ok) (q : ∀ M', Q (.bool true) M') :
    W funs known (.func (.func n_law10_RowBlind) #[] #[]) [.agg #[.int .u8 c, dv], ov, lv] M Q := by
  obtain ⟨a0, c0, rfl⟩ := hD.shape
  obtain ⟨a1, c1, rfl⟩ := hO.shape
  obtain ⟨a2, c2, rfl⟩ := hT.shape
  refine law10_RowBlind_wp hM ⟨rfl, fun b1 P hb1 hP => works_W ⟨KeepB.refl _ _, _, rfl, wpIf.ff ?_⟩⟩
  have eP : Ext M P := Ext.push' hP
  have sP : P.size = M.size + 1 := by rw [hP]; rfl
  have kP := eP.ok hM
  refine row_W (freeze_ok P) hc (hD.ext eP).freeze okD fun M7 r e7 n7 => ⟨e7.keepF _, ?_⟩
  have e07 := Ext.thaw e7
  refine other_W (e07.ok kP) hc ((hD.ext eP).ext e07) okD ((hO.ext eP).ext e07) okO fun M9 t e9 n9 => ⟨e9.keep _, ?_⟩
  have e09 := e07.trans e9
  have n7 : Mine 37 P M9 r (rowF c D []) := (show Mine 37 P (M7.thaw P.base) r (rowF c D []) from n7).ext e9
  have n9 : Mine 37 P M9 t (rowF c D O) := n9.old e07
  refine ⟨law10_RowBlind_l1_m, blI P b1 c (.slice a0 D.length c0) T (.slice a2 T.length c2), ⟨T.length, 0, M9, r, t, rowF c D [], rowF c D O, rfl, e09, n7, n9, (row_ok c D []).1, (row_ok c D O).1, (row_ok c D []).2, row_low c D O, by rw [rowF_len]; omega, Nat.zero_le _, rfl⟩, ?_⟩
  clear n7 n9 e7 e07 e9 e09
  rintro k s ⟨i, M', r, t, L, K, rfl, eM, nL0, nK0, wL, wK, lb, low, hlen, hi, rfl⟩
  have nL : Mine 37 P M' r L := nL0
  have nK : Mine 37 P M' t K := nK0
  clear nL0 nK0
  refine law10_RowBlind_l1_wp (I := blI P b1 c (.slice a0 D.length c0) T (.slice a2 T.length c2)) ?_
  have kM := eM.ok kP
  have done : wpC funs known none law10_RowBlind_c0 (law10_RowBlind_l1_s (.slice a2 T.length c2) r t (.int .i64 i) b1 (.int .u8 c) (.slice a0 D.length c0) [] M') (retK mf4 Q) → True := fun _ => trivial
  have fin : law10_RowBlind_c0_q r t b1 (.int .u8 c) (.slice a0 D.length c0) M' Q := low_W kM nL.sl nK.sl (by omega) low ⟨KeepB.refl _ _, q _⟩
  refine step_len (step_lss (wpIf.dec (fun h1 => step_lss (wpIf.dec (fun h2 => ?_) (fun h2 => ?_))) (fun h1 => ?_)))
  · have hlt : i < T.length := by omega
    obtain ⟨a, ha⟩ : ∃ a, T[i]? = some a := ⟨_, List.getElem?_eq_getElem hlt⟩
    have oka := okT a (List.mem_of_getElem? ha)
    refine low_W kM nL.sl nK.sl (by omega) low ⟨KeepB.refl _ _, _, rfl, wpIf.ff ?_⟩
    have e0 := eP.trans eM
    refine rd (hT.ext e0) (by omega) (by rw [Int.toNat_natCast]; exact ha) fun _ => does_W kM oka nL.sl (by omega) fun M10 r' e10 n10 => ⟨e10.keep _, ?_⟩
    refine rd ((hT.ext e0).ext e10) (by omega) (by rw [Int.toNat_natCast]; exact ha) fun _ => does_W (e10.ok kM) oka (nK.sl.ext e10) (by rw [← low.len]; omega) fun M14 t' e14 n14 => ⟨e14.keep _, ?_⟩
    refine step_add (by omega) (by omega) ⟨T.length - (i + 1), by omega, i + 1, M14, r', t', doesF a L, doesF a K, rfl, (eM.trans e10).trans e14, .inl ((n10.ext e14).old eM), .inl (n14.old (eM.trans e10)), wL.does a, wK.does a, lb.does a, low_does wL wK lb low a, ?_, by omega, rfl⟩
    have := doesF_len L a
    omega
  · exact blockK.hit (law10_RowBlind_c0_wp fin)
  · exact blockK.hit (law10_RowBlind_c0_wp fin)
end
end Go.Proofs.Ytokmjepnohjmdaa.Run
