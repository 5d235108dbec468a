/- The law RowMoves of chapter 10: the walk. -/
import Derived.Test.YtokmjepnohjmdaaMovesT
import Derived.Test.YtokmjepnohjmdaaVcG
namespace Go.Proofs.Ytokmjepnohjmdaa.Run
open Go Go.RowKit
set_option linter.unusedVariables false
set_option linter.unusedSimpArgs false

abbrev BL : Ce := blankF ⟨1, 0, 0, 0, 2, 5, 0, 0, 1⟩ 1
theorem BL_kind : BL.kind = 0 := rfl

section
variable {M : Mem} {Q : Value → Mem → Prop}
theorem worksM_W {M : Mem} (h : Q (.bool true) M) : W funs known (.func (.func n_law10_works) #[] #[]) [] M Q := W_known rfl h

abbrev mv1 (N : Mem) (r bk wh : Value) (p n m e : Nat) (b1 : Nat) (c0 c1 : Value) (b3 : Nat) (d0 d1 d2 : Value) (b23 : Nat) : Nat → LS → Prop := fun k s => ∃ i : Nat, s = law10_RowMoves_l1_s r (.int .i64 p) (.int .i64 n) (.int .i64 m) bk wh (.int .i64 i) b1 c0 c1 b3 d0 d1 d2 b23 (Enc.enc BL) [] N ∧ i ≤ e ∧ k = e - i
abbrev mv3 (N : Mem) (r bk : Value) (p n m e l : Nat) (b1 : Nat) (c0 c1 : Value) (b3 : Nat) (d0 d1 d2 : Value) (b23 : Nat) : Nat → LS → Prop := fun k s => ∃ i : Nat, s = law10_RowMoves_l3_s r (.int .i64 p) (.int .i64 n) (.int .i64 m) bk (.int .i64 i) b1 c0 c1 b3 d0 d1 d2 b23 (Enc.enc BL) [] N ∧ e ≤ i ∧ i ≤ l ∧ k = l - i
abbrev mv6 (N : Mem) (r : Value) (L : List Ce) (m : Nat) (b1 : Nat) (c0 c1 : Value) (b3 : Nat) (d0 d1 d2 : Value) (b23 : Nat) : Nat → LS → Prop := fun k s => ∃ i : Nat, s = law10_RowMoves_l6_s r (.int .i64 m) (.int .i64 ((L.take i).countP fun c => decide (c.kind ≠ 2))) (.int .i64 i) b1 c0 c1 b3 d0 d1 d2 b23 (Enc.enc BL) [] N ∧ i ≤ L.length ∧ k = L.length - i
/-- the bytes of the first runes -/
def posR (T : List Int) (i : Nat) : Nat := ((T.take i).flatMap runeB).length
abbrev mv8 (N : Mem) (r : Value) (T : List Int) (cnt : Nat) (m : Nat) (b1 : Nat) (c0 c1 : Value) (b3 : Nat) (d0 d1 d2 : Value) (b23 : Nat) : Nat → LS → Prop := fun k s => ∃ (i : Nat) (N' : Mem), s = law10_RowMoves_l8_s r (.int .i64 m) (.int .i64 cnt) (.int .i64 ((T.take i).countP fun r => decide (r ≠ 769))) (.pointer (some ⟨N.size, 0, none⟩)) b1 c0 c1 b3 d0 d1 d2 b23 (Enc.enc BL) [] N' ∧ Ext N N' ∧ N'.get N.size = some (.siter (strB (T.flatMap runeB)) (posR T i)) ∧ i ≤ T.length ∧ k = T.length - i

theorem runeB_pos (r : Int) : 0 < (runeB r).length := by unfold runeB; split <;> simp
theorem posR_next {T : List Int} {i : Nat} {r : Int} (h : T[i]? = some r) : posR T (i + 1) = posR T i + (runeB r).length ∧ (T.flatMap runeB).drop (posR T i) = runeB r ++ (T.drop (i + 1)).flatMap runeB := by
  obtain ⟨hi, hr⟩ := List.getElem?_eq_some_iff.1 h
  constructor
  · unfold posR
    rw [List.take_succ_eq_append_getElem hi, hr]; simp
  · have e : T = T.take i ++ (r :: T.drop (i + 1)) := by rw [← hr, List.getElem_cons_drop, List.take_append_drop]
    have e2 : T.flatMap runeB = (T.take i).flatMap runeB ++ (runeB r ++ (T.drop (i + 1)).flatMap runeB) := by
      conv => lhs; rw [e]
      simp
    rw [e2]
    unfold posR
    rw [List.drop_left]
theorem posR_end (T : List Int) : posR T T.length = (T.flatMap runeB).length := by unfold posR; rw [List.take_length]

set_option maxHeartbeats 2000000 in
theorem moves10_W (hM : M.base ≤ M.size) {c : Int} (hc : 0 ≤ c ∧ c ≤ 255) {dv : Value} {D : List Dr} (hD : Sl M dv D) (okD : ∀ d ∈ D, d.ok) {y0 y1 y2 : Int} (h0 : 0 ≤ y0 ∧ y0 ≤ 255) (h1 : 0 ≤ y1 ∧ y1 ≤ 255) (h2 : 0 ≤ y2 ∧ y2 ≤ 255) (q : ∀ M', Q (.bool true) M') :
    W funs known (.func (.func n_law10_RowMoves) #[] #[]) [.agg #[.int .u8 c, dv], .agg #[.int .u8 y0, .int .u8 y1, .int .u8 y2]] M Q := by
  obtain ⟨a0, c0, rfl⟩ := hD.shape
  refine law10_RowMoves_wp hM ⟨rfl, fun b1 P1 hb1 hP1 => ⟨rfl, fun b3 P hb3 hP => worksM_W ⟨KeepB.refl _ _, _, rfl, wpIf.ff ?_⟩⟩⟩
  have e1 : Ext M P1 := Ext.push' hP1
  have s1 : P1.size = M.size + 1 := by rw [hP1]; rfl
  have eP : Ext M P := e1.trans (Ext.push' hP)
  have sP : P.size = P1.size + 1 := by rw [hP]; rfl
  have kP := eP.ok hM
  refine row_W kP hc (hD.ext eP) okD fun M9 r e9 n9 => ⟨e9.keep _, by decide, ?_⟩
  have k9 := e9.ok kP
  have wL := (row_ok c D []).1
  have dL := row_drawn c okD (O := []) (fun d hd => by simp at hd)
  have lenL : (rowF c D []).length ≤ 30 := by rw [rowF_len]; omega
  have sl9 := n9.sl
  clear n9
  generalize rowF c D [] = L at wL dL lenL sl9
  obtain ⟨ra, rc, rfl⟩ := sl9.shape
  refine step_conv (IntWalk.i64_in _ (by omega)) (step_len (step_add (by omega) (by omega) (step_rem64 (by omega) (by omega) ⟨by decide, ?_⟩)))
  obtain ⟨p, hp, hpl⟩ : ∃ p : Nat, y0 % ((L.length : Int) + 1) = p ∧ p ≤ L.length := by
    have g1 := Int.emod_nonneg y0 (show (L.length : Int) + 1 ≠ 0 by omega)
    have g2 := Int.emod_lt_of_pos y0 (show (0 : Int) < (L.length : Int) + 1 by omega)
    exact ⟨(y0 % ((L.length : Int) + 1)).toNat, by omega, by omega⟩
  rw [hp]
  refine step_rem8 (by omega) (by omega) (step_conv (IntWalk.i64_in _ (by omega)) ⟨by decide, step_rem8 (by omega) (by omega) (step_conv (IntWalk.i64_in _ (by omega)) ?_)⟩)
  obtain ⟨n, hn, hn6⟩ : ∃ n : Nat, y1 % 6 = n ∧ n ≤ 5 := ⟨(y1 % 6).toNat, by omega, by omega⟩
  obtain ⟨m, hm, hm6⟩ : ∃ m : Nat, y2 % 6 = m ∧ m ≤ 5 := ⟨(y2 % 6).toNat, by omega, by omega⟩
  rw [hn, hm]
  refine ⟨_, rfl, _, rfl, .agg (⟨1, 0, 0, 0, 2, 5, 0, 0, 1⟩ : At9).cells.toArray, rfl, blank_W k9 fun M22 e22 => ⟨e22.keep _, rfl, fun b23 M24 hb23 hM24 => ⟨⟨rfl, rfl, by decide⟩, fun N hN => ?_⟩⟩⟩
  have e24 : Ext M9 M24 := e22.trans (Ext.push' hM24)
  have s22 := e22.size
  have s9 := e9.size
  have s24 : M24.size = M22.size + 1 := by rw [hM24]; rfl
  have eN : Ext M9 N := hN ▸ e24.set (by omega) (by omega) _
  have sN : N.size = M24.size := by rw [hN]; rfl
  have kN := eN.ok k9
  have slN := sl9.ext eN
  have hz3 : ∀ b ∈ [b1, b3, b23], b < N.size := fun b hb => by
    simp only [List.mem_cons, List.not_mem_nil, or_false] at hb; omega
  refine LGetN.as BL.val (by exact Nat.le_refl 14) rfl ⟨_, rfl, _, rfl, BL.val, rfl, step_neqCe (wpIf.dec (fun h => absurd rfl h) (fun _ => ?_))⟩
  refine LGetN.as BL.val (by exact Nat.le_refl 14) rfl (insert_W (freeze_ok _) slN.freeze (by omega) fun M33 r32 e33 n33 => ⟨e33.keepF _, LGetN.as BL.val (by exact Nat.le_refl 14) rfl ?_⟩)
  have t33 := Ext.thaw e33
  have n33' : New 37 N (M33.thaw N.base) r32 (insertF L p n BL) := n33
  obtain ⟨m', hm'⟩ : ∃ m', m' = min n (L.length - p) := ⟨_, rfl⟩
  obtain ⟨e, hee⟩ : ∃ e, e = L.length - m' := ⟨_, rfl⟩
  have he : max (p : Int) ((L.length : Int) - (n : Nat)) = (e : Nat) := by omega
  refine delete_W (t33.ok kN) n33'.sl (by rw [insertF_len]; omega) fun M36 r35 e36 n36 => ⟨e36.keep _, step_len (step_sub (by omega) (by omega) (step_max ?_))⟩
  rw [ins_del BL_kind hpl hm' hee] at n36
  rw [he]
  have k36 := e36.ok (t33.ok kN)
  refine step_lit [(⟨(p : Int)⟩ : In), ⟨(e : Int)⟩] rfl rfl fun va M41 e41 n41 => ⟨e41.keep _, break_W (e41.ok k36) (((slN.ext t33).ext e36).ext e41) n41.sl (by omega) (by simp) fun N2 r42 e42' n42' => ⟨e42'.keep _, ?_⟩⟩
  have e42 := e41.trans e42'
  have n42 : New 37 M36 N2 r42 (brk2 L (p : Nat) (e : Nat)) := New.old e41 n42'
  have eN2 : Ext N N2 := (t33.trans e36).trans e42
  have kN2 := eN2.ok kN
  have slr := slN.ext eN2
  have sbk := n36.sl.ext e42
  have swh := n42.sl
  clear n33 n33' n36 n42 n42' sl9
  have hBl := brk2_len L (p : Nat) (e : Nat)
  generalize brk2 L (p : Nat) (e : Nat) = B at sbk swh hBl
  have hbl : (B.take e ++ List.replicate m' BL).length = L.length := by rw [List.length_append, List.length_take, List.length_replicate]; omega
  refine ⟨law10_RowMoves_l1_m, mv1 N2 (.slice ra L.length rc) r35 r42 p n m e b1 (.int .u8 c) (.slice a0 D.length c0) b3 (.int .u8 y0) (.int .u8 y1) (.int .u8 y2) b23, ⟨e, 0, rfl, Nat.zero_le _, rfl⟩, ?_⟩
  rintro k s ⟨i, rfl, hi, rfl⟩
  refine law10_RowMoves_l1_wp (I := mv1 N2 (.slice ra L.length rc) r35 r42 p n m e b1 (.int .u8 c) (.slice a0 D.length c0) b3 (.int .u8 y0) (.int .u8 y1) (.int .u8 y2) b23) (step_len (step_sub (by omega) (by omega) (step_max ?_)))
  rw [he]
  refine step_lss (wpIf.dec (fun g => ?_) (fun g => ?_))
  · obtain ⟨x, hx⟩ : ∃ x, B[i]? = some x := ⟨_, List.getElem?_eq_getElem (by omega)⟩
    have hb : (B.take e ++ List.replicate m' BL)[i]? = some x := by rw [List.getElem?_append_left (by rw [List.length_take]; omega), List.getElem?_take, if_pos (by omega)]; exact hx
    refine step_lenS sbk (s_geF (by rw [hbl]; omega) (wpIf.ff (rd sbk (by omega) (by rw [Int.toNat_natCast]; exact hb) fun _ => rd swh (by omega) (by rw [Int.toNat_natCast]; exact hx) fun _ => step_neqCe (wpIf.dec (fun h => absurd rfl h) (fun _ => ?_)))))
    exact step_add (by omega) (by omega) ⟨e - (i + 1), by omega, i + 1, rfl, by omega, rfl⟩
  refine blockK.hit (law10_RowMoves_c0_wp (step_len (step_sub (by omega) (by omega) (step_max ?_))))
  rw [he]
  refine ⟨law10_RowMoves_l3_m, mv3 N2 (.slice ra L.length rc) r35 p n m e L.length b1 (.int .u8 c) (.slice a0 D.length c0) b3 (.int .u8 y0) (.int .u8 y1) (.int .u8 y2) b23, ⟨L.length - e, e, rfl, Nat.le_refl _, by omega, rfl⟩, ?_⟩
  clear hi g
  rintro k s ⟨i, rfl, hi, hi2, rfl⟩
  refine law10_RowMoves_l3_wp (I := mv3 N2 (.slice ra L.length rc) r35 p n m e L.length b1 (.int .u8 c) (.slice a0 D.length c0) b3 (.int .u8 y0) (.int .u8 y1) (.int .u8 y2) b23) (step_lenS sbk (step_lss (wpIf.dec (fun g => ?_) (fun g => ?_))))
  · rw [hbl] at g
    have hb : (B.take e ++ List.replicate m' BL)[i]? = some BL := by
      rw [List.getElem?_append_right (by rw [List.length_take]; omega), List.getElem?_replicate, if_pos (by rw [List.length_take]; omega)]
    refine rd sbk (by omega) (by rw [Int.toNat_natCast]; exact hb) fun _ => LGetN.as BL.val (by exact Nat.le_refl 14) rfl (step_neqCe (wpIf.dec (fun h => absurd rfl h) (fun _ => ?_)))
    exact step_add (by omega) (by omega) ⟨L.length - (i + 1), by omega, i + 1, rfl, by omega, by omega, rfl⟩
  refine blockK.hit (law10_RowMoves_c2_wp (step_add (by omega) (by omega) (step_add (by omega) (by omega) (step_len (step_leq (wpIf.dec (fun g2 => ?_) (fun g2 => ?_)))))))
  · have hle : p + n + m ≤ L.length := by omega
    refine step_add (by omega) (by omega) ?_
    rw [show (p : Int) + (n : Nat) = ((p + n : Nat) : Int) by omega]
    refine step_lit [(⟨((p + n : Nat) : Int)⟩ : In)] rfl rfl fun va M7 e7 n7 => ⟨e7.keepF _, ?_⟩
    have t7 := Ext.thaw e7
    have n7' : New 3 N2 (M7.thaw N2.base) va [(⟨((p + n : Nat) : Int)⟩ : In)] := n7
    have b7 := t7.base
    generalize M7.thaw N2.base = R1 at t7 n7' b7 ⊢
    refine break_W (freeze_ok _) (slr.ext t7).freeze n7'.sl.freeze (by omega) (by simp) fun M9 r8 e9 n9 => ⟨e9.keepF _, LGetN.as BL.val (by exact Nat.le_refl 14) rfl ?_⟩
    have t9 : Ext R1 (M9.thaw N2.base) := b7 ▸ Ext.thaw e9
    have n9' : New 37 R1 (M9.thaw N2.base) r8 (breakF L ((p + n : Nat))) := n9
    have b9 := t9.base.trans b7
    generalize M9.thaw N2.base = R2 at t9 n9' b9 ⊢
    refine delete_W (freeze_ok _) n9'.sl.freeze (by rw [breakF_len]; omega) fun M12 r11 e12 n12 => ⟨e12.keepF _, LGetN.as BL.val (by exact Nat.le_refl 14) rfl ?_⟩
    have t12 : Ext R2 (M12.thaw N2.base) := b9 ▸ Ext.thaw e12
    have n12' : New 37 R2 (M12.thaw N2.base) r11 (deleteF (breakF L ((p + n : Nat))) (p : Nat) (n : Nat) BL) := n12
    have b12 := t12.base.trans b9
    generalize M12.thaw N2.base = R3 at t12 n12' b12 ⊢
    refine delete_W (freeze_ok _) n12'.sl.freeze (by rw [deleteF_len, breakF_len]; omega) fun M15 r14 e15 n15 => ⟨e15.keepF _, ?_⟩
    have t15 : Ext R3 (M15.thaw N2.base) := b12 ▸ Ext.thaw e15
    have n15' : New 37 R3 (M15.thaw N2.base) r14 (deleteF (deleteF (breakF L ((p + n : Nat))) (p : Nat) (n : Nat) BL) (p : Nat) (m : Nat) BL) := n15
    rw [del_del wL BL_kind hle] at n15'
    have b15 := t15.base.trans b12
    generalize M15.thaw N2.base = R4 at t15 n15' b15 ⊢
    refine step_add (by omega) (by omega) ?_
    rw [show (p : Int) + (n : Nat) = ((p + n : Nat) : Int) by omega]
    refine step_lit [(⟨((p + n : Nat) : Int)⟩ : In)] rfl rfl fun vb M18 e18 n18 => ⟨e18.keepF _, ?_⟩
    have t18 : Ext R4 (M18.thaw N2.base) := b15 ▸ Ext.thaw e18
    have n18' : New 3 R4 (M18.thaw N2.base) vb [(⟨((p + n : Nat) : Int)⟩ : In)] := n18
    have b18 := t18.base.trans b15
    generalize M18.thaw N2.base = R5 at t18 n18' b18 ⊢
    have t05 := (((t7.trans t9).trans t12).trans t15).trans t18
    refine break_W (freeze_ok _) (slr.ext t05).freeze n18'.sl.freeze (by omega) (by simp) fun M20 r19 e20 n20 => ⟨e20.keepF _, step_add (by omega) (by omega) (LGetN.as BL.val (by exact Nat.le_refl 14) rfl ?_)⟩
    rw [show (n : Int) + (m : Nat) = ((n + m : Nat) : Int) by omega]
    have t20 : Ext R5 (M20.thaw N2.base) := b18 ▸ Ext.thaw e20
    have n20' : New 37 R5 (M20.thaw N2.base) r19 (breakF L ((p + n : Nat))) := n20
    generalize M20.thaw N2.base = R6 at t20 n20' ⊢
    have t06 := t05.trans t20
    have k06 := t06.ok kN2
    refine delete_W k06 n20'.sl (by rw [breakF_len]; omega) fun M24 r23 e24 n24 => ⟨e24.keep _, ?_⟩
    refine same_W (e24.ok k06) (((n15'.sl.ext t18).ext t20).ext e24) n24.sl (by rw [deleteF_len, breakF_len]; omega) ⟨KeepB.refl _ _, ?_⟩
    rw [decide_eq_true rfl]
    refine ⟨_, rfl, wpIf.ff ?_⟩
    have eT := t06.trans e24
    have slT := slr.ext eT
    have kT := eT.ok kN2
    have eNT := eN2.trans eT
    refine law10_RowMoves_c4_wp ⟨law10_RowMoves_l6_m, mv6 M24 (.slice ra L.length rc) L m b1 (.int .u8 c) (.slice a0 D.length c0) b3 (.int .u8 y0) (.int .u8 y1) (.int .u8 y2) b23, ⟨L.length, 0, rfl, Nat.zero_le _, rfl⟩, ?_⟩
    rintro k s ⟨i, rfl, hi, rfl⟩
    refine law10_RowMoves_l6_wp (I := mv6 M24 (.slice ra L.length rc) L m b1 (.int .u8 c) (.slice a0 D.length c0) b3 (.int .u8 y0) (.int .u8 y1) (.int .u8 y2) b23) (step_len (step_lss (wpIf.dec (fun g => ?_) (fun g => ?_))))
    · obtain ⟨x, hx⟩ : ∃ x, L[i]? = some x := ⟨_, List.getElem?_eq_getElem (by omega)⟩
      have hcnt : (L.take (i + 1)).countP (fun c => decide (c.kind ≠ 2)) = (L.take i).countP (fun c => decide (c.kind ≠ 2)) + if x.kind = 2 then 0 else 1 := by
        obtain ⟨h1, h2⟩ := List.getElem?_eq_some_iff.1 hx
        rw [List.take_succ_eq_append_getElem h1, List.countP_append, h2, List.countP_singleton]
        by_cases hk : x.kind = 2 <;> simp [hk]
      have hcl : (L.take i).countP (fun c => decide (c.kind ≠ 2)) ≤ 30 := Nat.le_trans List.countP_le_length (by rw [List.length_take]; omega)
      refine rd_f slT (by omega) (by rw [Int.toNat_natCast]; exact hx) (f := 3) rfl fun _ _ => ?_
      by_cases hk : x.kind = 2
      · rw [if_pos hk] at hcnt
        exact s_neF (fun h => h hk) (wpIf.ff (step_add (by omega) (by omega) ⟨L.length - (i + 1), by omega, i + 1, by rw [hcnt]; rfl, by omega, rfl⟩))
      · rw [if_neg hk] at hcnt
        exact s_neT hk (wpIf.tt (step_add (by omega) (by omega) (step_add (by omega) (by omega) ⟨L.length - (i + 1), by omega, i + 1, by rw [hcnt]; rfl, by omega, rfl⟩)))
    · have : i = L.length := by omega
      subst this
      rw [List.take_length]
      refine blockK.hit (law10_RowMoves_c5_wp (text_W kT slT (by omega) (fun c hc => (dL c hc).plain) fun N2 e2 => ⟨e2.keep _, .pointer (some ⟨N2.size, 0, none⟩), N2.push (.siter (strB (textB L)) 0), rfl, (Ext.push _ _).keep _, ?_⟩))
      rw [textB_eq]
      have hT := textR_ok dL
      have hTc := textR_count dL
      generalize textR L = T at hT hTc ⊢
      rw [← hTc]
      have hcntT : T.countP (fun r => decide (r ≠ 769)) ≤ 30 := by rw [hTc]; exact Nat.le_trans List.countP_le_length lenL
      refine ⟨law10_RowMoves_l8_m, mv8 N2 (.slice ra L.length rc) T (T.countP fun r => decide (r ≠ 769)) m b1 (.int .u8 c) (.slice a0 D.length c0) b3 (.int .u8 y0) (.int .u8 y1) (.int .u8 y2) b23, ⟨T.length, 0, N2.push (.siter (strB (T.flatMap runeB)) 0), rfl, Ext.push _ _, by rw [Mem.get_push, if_pos rfl]; rfl, Nat.zero_le _, rfl⟩, ?_⟩
      rintro k s ⟨i, N', rfl, e', g', hi', rfl⟩
      refine law10_RowMoves_l8_wp (I := mv8 N2 (.slice ra L.length rc) T (T.countP fun r => decide (r ≠ 769)) m b1 (.int .u8 c) (.slice a0 D.length c0) b3 (.int .u8 y0) (.int .u8 y1) (.int .u8 y2) b23) ?_
      have k2 := e2.ok kT
      have kN := e'.ok k2
      have hlt := Mem.lt_of_get g'
      have hbase : N'.base ≤ N2.size := by have := e'.base; omega
      by_cases hiT : i < T.length
      · obtain ⟨x, hx⟩ : ∃ x, T[i]? = some x := ⟨_, List.getElem?_eq_getElem hiT⟩
        obtain ⟨hp1, hp2⟩ := posR_next hx
        have hxok := hT x (List.mem_of_getElem? hx)
        have hdec := decode_at hp2 hxok
        have hsz : posR T i < (strB (T.flatMap runeB)).size := by
          have := congrArg List.length hp2
          rw [List.length_drop, List.length_append] at this
          have := runeB_pos x
          rw [strB_size]; omega
        have hcnt : (T.take (i + 1)).countP (fun r => decide (r ≠ 769)) = (T.take i).countP (fun r => decide (r ≠ 769)) + if x = 769 then 0 else 1 := by
          obtain ⟨h1, h2⟩ := List.getElem?_eq_some_iff.1 hx
          rw [List.take_succ_eq_append_getElem h1, List.countP_append, h2, List.countP_singleton]
          by_cases hk : x = 769 <;> simp [hk]
        have hcl : (T.take i).countP (fun r => decide (r ≠ 769)) ≤ 30 := Nat.le_trans (List.Sublist.countP_le (List.take_sublist _ _)) hcntT
        refine ⟨.tuple #[.bool true, .int .i64 (posR T i), .int .i32 x], N'.set N2.size (.siter (strB (T.flatMap runeB)) (posR T (i + 1))), ?_, fun b hb hbs => ?_, .bool true, rfl, wpIf.tt ⟨.int .i32 x, rfl, ?_⟩⟩
        · simp only [opSem, ev, g', if_pos hsz, if_pos hbase, hdec, hp1]
          have : ((x.toNat : Nat) : Int) = x := by rcases hxok with h | h <;> omega
          rw [this]
        · have := hz3 b hb
          rw [Mem.get_set _ _ _ hlt, if_neg]
          have := e2.size
          have := (eNT).size
          omega
        · have eS : Ext N2 (N'.set N2.size (.siter (strB (T.flatMap runeB)) (posR T (i + 1)))) := e'.set_new (Nat.le_refl _) hlt _
          have gS : (N'.set N2.size (.siter (strB (T.flatMap runeB)) (posR T (i + 1)))).get N2.size = some (.siter (strB (T.flatMap runeB)) (posR T (i + 1))) := by rw [Mem.get_set _ _ _ hlt, if_pos rfl]
          by_cases hk : x = 769
          · rw [if_pos hk] at hcnt
            exact s_neF (fun h => h hk) (wpIf.ff ⟨T.length - (i + 1), by omega, i + 1, _, by rw [hcnt]; rfl, eS, gS, by omega, rfl⟩)
          · rw [if_neg hk] at hcnt
            exact s_neT hk (wpIf.tt (step_add (by omega) (by omega) ⟨T.length - (i + 1), by omega, i + 1, _, by rw [hcnt]; rfl, eS, gS, by omega, rfl⟩))
      · have hiT : i = T.length := by omega
        subst hiT
        rw [List.take_length, posR_end] at *
        refine ⟨.tuple #[.bool false], N', ?_, KeepB.refl _ _, .bool false, rfl, wpIf.ff (blockK.hit (law10_RowMoves_c7_wp (s_eqT rfl (wpIf.tt ?_))))⟩
        · simp only [opSem, ev, g']
          rw [if_neg (by rw [strB_size]; omega)]
        · have slE := (slT).ext (e2.trans e')
          refine step_len (step_add (by omega) (by omega) (LGetN.as BL.val (by exact Nat.le_refl 14) rfl (resize_W (freeze_ok _) slE.freeze (by omega) (by omega) fun M6 r5 e6 n6 => ⟨e6.keepF _, step_len (LGetN.as BL.val (by exact Nat.le_refl 14) rfl ?_)⟩)))
          have t6 := Ext.thaw e6
          have n6' : New 37 N' (M6.thaw N'.base) r5 (resizeF L ((L.length : Int) + (m : Nat)).toNat BL) := n6
          rw [show ((L.length : Int) + (m : Nat)).toNat = L.length + m by omega] at n6'
          refine resize_W (t6.ok kN) n6'.sl (by rw [resizeF_len]; omega) (by omega) fun M10 r9 e10 n10 => ⟨e10.keep _, ?_⟩
          rw [Int.toNat_natCast, longer BL_kind] at n10
          refine same_W (e10.ok (t6.ok kN)) n10.sl ((slE.ext t6).ext e10) (by omega) ⟨KeepB.refl _ _, ?_⟩
          rw [decide_eq_true rfl]
          exact q _
  · skip
    refine law10_RowMoves_c4_wp ⟨law10_RowMoves_l6_m, mv6 N2 (.slice ra L.length rc) L m b1 (.int .u8 c) (.slice a0 D.length c0) b3 (.int .u8 y0) (.int .u8 y1) (.int .u8 y2) b23, ⟨L.length, 0, rfl, Nat.zero_le _, rfl⟩, ?_⟩
    rintro k s ⟨i, rfl, hi, rfl⟩
    refine law10_RowMoves_l6_wp (I := mv6 N2 (.slice ra L.length rc) L m b1 (.int .u8 c) (.slice a0 D.length c0) b3 (.int .u8 y0) (.int .u8 y1) (.int .u8 y2) b23) (step_len (step_lss (wpIf.dec (fun g => ?_) (fun g => ?_))))
    · obtain ⟨x, hx⟩ : ∃ x, L[i]? = some x := ⟨_, List.getElem?_eq_getElem (by omega)⟩
      have hcnt : (L.take (i + 1)).countP (fun c => decide (c.kind ≠ 2)) = (L.take i).countP (fun c => decide (c.kind ≠ 2)) + if x.kind = 2 then 0 else 1 := by
        obtain ⟨h1, h2⟩ := List.getElem?_eq_some_iff.1 hx
        rw [List.take_succ_eq_append_getElem h1, List.countP_append, h2, List.countP_singleton]
        by_cases hk : x.kind = 2 <;> simp [hk]
      have hcl : (L.take i).countP (fun c => decide (c.kind ≠ 2)) ≤ 30 := Nat.le_trans List.countP_le_length (by rw [List.length_take]; omega)
      refine rd_f slr (by omega) (by rw [Int.toNat_natCast]; exact hx) (f := 3) rfl fun _ _ => ?_
      by_cases hk : x.kind = 2
      · rw [if_pos hk] at hcnt
        exact s_neF (fun h => h hk) (wpIf.ff (step_add (by omega) (by omega) ⟨L.length - (i + 1), by omega, i + 1, by rw [hcnt]; rfl, by omega, rfl⟩))
      · rw [if_neg hk] at hcnt
        exact s_neT hk (wpIf.tt (step_add (by omega) (by omega) (step_add (by omega) (by omega) ⟨L.length - (i + 1), by omega, i + 1, by rw [hcnt]; rfl, by omega, rfl⟩)))
    · have : i = L.length := by omega
      subst this
      rw [List.take_length]
      refine blockK.hit (law10_RowMoves_c5_wp (text_W kN2 slr (by omega) (fun c hc => (dL c hc).plain) fun N2 e2 => ⟨e2.keep _, .pointer (some ⟨N2.size, 0, none⟩), N2.push (.siter (strB (textB L)) 0), rfl, (Ext.push _ _).keep _, ?_⟩))
      rw [textB_eq]
      have hT := textR_ok dL
      have hTc := textR_count dL
      generalize textR L = T at hT hTc ⊢
      rw [← hTc]
      have hcntT : T.countP (fun r => decide (r ≠ 769)) ≤ 30 := by rw [hTc]; exact Nat.le_trans List.countP_le_length lenL
      refine ⟨law10_RowMoves_l8_m, mv8 N2 (.slice ra L.length rc) T (T.countP fun r => decide (r ≠ 769)) m b1 (.int .u8 c) (.slice a0 D.length c0) b3 (.int .u8 y0) (.int .u8 y1) (.int .u8 y2) b23, ⟨T.length, 0, N2.push (.siter (strB (T.flatMap runeB)) 0), rfl, Ext.push _ _, by rw [Mem.get_push, if_pos rfl]; rfl, Nat.zero_le _, rfl⟩, ?_⟩
      rintro k s ⟨i, N', rfl, e', g', hi', rfl⟩
      refine law10_RowMoves_l8_wp (I := mv8 N2 (.slice ra L.length rc) T (T.countP fun r => decide (r ≠ 769)) m b1 (.int .u8 c) (.slice a0 D.length c0) b3 (.int .u8 y0) (.int .u8 y1) (.int .u8 y2) b23) ?_
      have k2 := e2.ok kN2
      have kN := e'.ok k2
      have hlt := Mem.lt_of_get g'
      have hbase : N'.base ≤ N2.size := by have := e'.base; omega
      by_cases hiT : i < T.length
      · obtain ⟨x, hx⟩ : ∃ x, T[i]? = some x := ⟨_, List.getElem?_eq_getElem hiT⟩
        obtain ⟨hp1, hp2⟩ := posR_next hx
        have hxok := hT x (List.mem_of_getElem? hx)
        have hdec := decode_at hp2 hxok
        have hsz : posR T i < (strB (T.flatMap runeB)).size := by
          have := congrArg List.length hp2
          rw [List.length_drop, List.length_append] at this
          have := runeB_pos x
          rw [strB_size]; omega
        have hcnt : (T.take (i + 1)).countP (fun r => decide (r ≠ 769)) = (T.take i).countP (fun r => decide (r ≠ 769)) + if x = 769 then 0 else 1 := by
          obtain ⟨h1, h2⟩ := List.getElem?_eq_some_iff.1 hx
          rw [List.take_succ_eq_append_getElem h1, List.countP_append, h2, List.countP_singleton]
          by_cases hk : x = 769 <;> simp [hk]
        have hcl : (T.take i).countP (fun r => decide (r ≠ 769)) ≤ 30 := Nat.le_trans (List.Sublist.countP_le (List.take_sublist _ _)) hcntT
        refine ⟨.tuple #[.bool true, .int .i64 (posR T i), .int .i32 x], N'.set N2.size (.siter (strB (T.flatMap runeB)) (posR T (i + 1))), ?_, fun b hb hbs => ?_, .bool true, rfl, wpIf.tt ⟨.int .i32 x, rfl, ?_⟩⟩
        · simp only [opSem, ev, g', if_pos hsz, if_pos hbase, hdec, hp1]
          have : ((x.toNat : Nat) : Int) = x := by rcases hxok with h | h <;> omega
          rw [this]
        · have := hz3 b hb
          rw [Mem.get_set _ _ _ hlt, if_neg]
          have := e2.size
          have := (eN2).size
          omega
        · have eS : Ext N2 (N'.set N2.size (.siter (strB (T.flatMap runeB)) (posR T (i + 1)))) := e'.set_new (Nat.le_refl _) hlt _
          have gS : (N'.set N2.size (.siter (strB (T.flatMap runeB)) (posR T (i + 1)))).get N2.size = some (.siter (strB (T.flatMap runeB)) (posR T (i + 1))) := by rw [Mem.get_set _ _ _ hlt, if_pos rfl]
          by_cases hk : x = 769
          · rw [if_pos hk] at hcnt
            exact s_neF (fun h => h hk) (wpIf.ff ⟨T.length - (i + 1), by omega, i + 1, _, by rw [hcnt]; rfl, eS, gS, by omega, rfl⟩)
          · rw [if_neg hk] at hcnt
            exact s_neT hk (wpIf.tt (step_add (by omega) (by omega) ⟨T.length - (i + 1), by omega, i + 1, _, by rw [hcnt]; rfl, eS, gS, by omega, rfl⟩))
      · have hiT : i = T.length := by omega
        subst hiT
        rw [List.take_length, posR_end] at *
        refine ⟨.tuple #[.bool false], N', ?_, KeepB.refl _ _, .bool false, rfl, wpIf.ff (blockK.hit (law10_RowMoves_c7_wp (s_eqT rfl (wpIf.tt ?_))))⟩
        · simp only [opSem, ev, g']
          rw [if_neg (by rw [strB_size]; omega)]
        · have slE := (slr).ext (e2.trans e')
          refine step_len (step_add (by omega) (by omega) (LGetN.as BL.val (by exact Nat.le_refl 14) rfl (resize_W (freeze_ok _) slE.freeze (by omega) (by omega) fun M6 r5 e6 n6 => ⟨e6.keepF _, step_len (LGetN.as BL.val (by exact Nat.le_refl 14) rfl ?_)⟩)))
          have t6 := Ext.thaw e6
          have n6' : New 37 N' (M6.thaw N'.base) r5 (resizeF L ((L.length : Int) + (m : Nat)).toNat BL) := n6
          rw [show ((L.length : Int) + (m : Nat)).toNat = L.length + m by omega] at n6'
          refine resize_W (t6.ok kN) n6'.sl (by rw [resizeF_len]; omega) (by omega) fun M10 r9 e10 n10 => ⟨e10.keep _, ?_⟩
          rw [Int.toNat_natCast, longer BL_kind] at n10
          refine same_W (e10.ok (t6.ok kN)) n10.sl ((slE.ext t6).ext e10) (by omega) ⟨KeepB.refl _ _, ?_⟩
          rw [decide_eq_true rfl]
          exact q _
end
end Go.Proofs.Ytokmjepnohjmdaa.Run
