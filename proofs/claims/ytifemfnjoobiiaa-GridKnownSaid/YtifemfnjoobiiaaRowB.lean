/- What Break of chapter 10 does. -/
import Derived.Test.YtifemfnjoobiiaaRow
import Derived.Test.YtifemfnjoobiiaaStep
namespace Go.Proofs.Ytifemfnjoobiiaa.Run
open Go Go.RowKit
set_option linter.unusedVariables false
set_option linter.unusedSimpArgs false
def cutF (L : List Ce) (j : Nat) : Bool := match L[j - 1]?, L[j]? with
 | some a, some b => decide (0 < j ∧ a.kind = 1 ∧ b.kind = 2)
 | _, _ => false
theorem cutF_iff {L : List Ce} {j : Nat} : cutF L j = true ↔ ∃ a b, 0 < j ∧ L[j - 1]? = some a ∧ L[j]? = some b ∧ a.kind = 1 ∧ b.kind = 2 := by
 unfold cutF
 constructor
 ·intro h
  split at h
  ·rename_i a b ha hb
   have := of_decide_eq_true h
   exact ⟨a, b, this.1, ha, hb, this.2⟩
  ·cases h
 ·rintro ⟨a, b, h0, ha, hb, h1, h2⟩
  rw [ha, hb]
  exact decide_eq_true ⟨h0, h1, h2⟩
def bareAt (L : List Ce) (j : Nat) : List Ce := match L[j]? with
 | some c => L.set j c.bare
 | none => L
def breakF (L : List Ce) (i : Int) : List Ce := if cutF L (max 0 (min i L.length)).toNat then bareAt (bareAt L ((max 0 (min i L.length)).toNat - 1)) (max 0 (min i L.length)).toNat else L
theorem bareAt_len (L : List Ce) (j : Nat) : (bareAt L j).length = L.length := by unfold bareAt; split <;> simp
theorem breakF_len (L : List Ce) (i : Int) : (breakF L i).length = L.length := by unfold breakF; split <;> simp [bareAt_len]
theorem bareAt_some {L : List Ce} {j : Nat} {c : Ce} (h : L[j]? = some c) : bareAt L j = L.set j c.bare := by unfold bareAt; rw [h]
theorem breaks_len (A : List In) : ∀ L : List Ce, (A.foldl (fun L a => breakF L a.n) L).length = L.length := by
 induction A with
 | nil => intro L; rfl
 | cons a A ih => intro L; rw [List.foldl_cons, ih, breakF_len]
section
variable {Q : Value → Mem → Prop}
abbrev brI (P : Mem) (b1 : Nat) (A : List In) (va r : Value) (L : List Ce) : Nat → LS → Prop := fun k s => ∃ (i : Nat) (M' : Mem), s = row_Break_l1_s (.func (.func n_row_Break_1) #[] #[.pointer (some ⟨b1, 0, none⟩)]) va (.int .i64 A.length) (.int .i64 i) b1 r [] M' ∧ Ext P M' ∧ New 42 P M' r ((A.take i).foldl (fun L a => breakF L a.n) L) ∧ i ≤ A.length ∧ k = A.length - i
set_option maxHeartbeats 1000000 in
theorem break_W {M : Mem} (hM : M.base ≤ M.size) {v va : Value} {L : List Ce} {A : List In} (h : Sl M v L) (hA : Sl M va A) (hL : L.length ≤ 2 ^ 30) (hAl : A.length ≤ 2 ^ 30) (q : ∀ M' r, Ext M M' → New 42 M M' r (A.foldl (fun L a => breakF L a.n) L) → Q r M') :
  W funs known (.func (.func n_row_Break) #[] #[]) [v, va] M Q := by
 obtain ⟨ad, cap, rfl⟩ := h.shape
 obtain ⟨ad2, cap2, rfl⟩ := hA.shape
 refine row_Break_wp hM ⟨rfl, fun b1 M2 hb1 hM2 => ?_⟩
 have e2 : Ext M M2 := Ext.push' hM2
 have s2 : M2.size = M.size + 1 := by rw [hM2]; rfl
 refine own_W (e2.ok hM) (h.ext e2) hL fun M4 r e4 n4 => ⟨e4.keep _, r, ?_, ?_, by decide, fun M5 hM5 => step_len ?_⟩
 ·obtain ⟨b, sp, rfl, _⟩ := n4; rfl
 ·obtain ⟨b, sp, rfl, _⟩ := n4; rfl
 have hb2 : b1 < M2.size := by omega
 have s4 := e4.size
 have ePM : Ext M (M2.set b1 (.cells [r] 26 true)) := e2.set (by omega) hb2 _
 have hP : (M2.set b1 (.cells [r] 26 true)).get b1 = some (.cells [r] 26 true) := by rw [Mem.get_set _ _ _ hb2, if_pos rfl]
 have e5 : Ext (M2.set b1 (.cells [r] 26 true)) M5 := by
  rw [hM5]
  refine ⟨e4.base, by simpa using s4, fun c hc => ?_⟩
  have hc : c < M2.size := by simpa using hc
  rw [Mem.get_set _ _ _ (by omega), Mem.get_set _ _ _ hb2]
  split
  ·rfl
  ·exact e4.get c hc
 have n5 : New 42 (M2.set b1 (.cells [r] 26 true)) M5 r L := by
  obtain ⟨b, sp, rfl, g, hb⟩ := n4
  refine ⟨b, sp, rfl, ?_, by simpa using hb⟩
  rw [hM5, Mem.get_set _ _ _ (by omega), if_neg (by omega)]; exact g
 generalize M2.set b1 (.cells [r] 26 true) = P at ePM hP e5 n5
 have hPs := Mem.lt_of_get hP
 have kP := ePM.ok hM
 refine ⟨row_Break_l1_m, brI P b1 A (.slice ad2 A.length cap2) r L, ⟨A.length, 0, M5, rfl, e5, n5, Nat.zero_le _, rfl⟩, ?_⟩
 rintro k s ⟨i, M', rfl, eM, nM0, hi, rfl⟩
 have nM : New 42 P M' r ((A.take i).foldl (fun L a => breakF L a.n) L) := nM0
 refine row_Break_l1_wp (I := brI P b1 A (.slice ad2 A.length cap2) r L) ?_
 refine step_lss (wpIf.dec (fun h1 => ?_) (fun h1 => ?_))
 ·have hlt : i < A.length := by omega
  obtain ⟨a, ha⟩ : ∃ a, A[i]? = some a := ⟨_, List.getElem?_eq_getElem hlt⟩
  have hnext : (A.take (i + 1)).foldl (fun L a => breakF L a.n) L = breakF ((A.take i).foldl (fun L a => breakF L a.n) L) a.n := by
   rw [List.take_add_one, ha, List.foldl_append]; rfl
  have hlen := breaks_len (A.take i) L
  generalize (A.take i).foldl (fun L a => breakF L a.n) L = C at nM hnext hlen
  obtain ⟨p, hp, hat⟩ := (hA.ext (ePM.trans eM)).addr (i := (i : Int)) (by omega) (a := a) (by rw [Int.toNat_natCast]; exact ha) (j := .i64) M'
  refine ⟨p, hp, _, hat.load1 rfl, within_W (eM.ok kP) nM.sl ⟨KeepB.refl _ _, ?_⟩⟩
  obtain ⟨j, hj⟩ : ∃ j : Nat, (max 0 (min a.n (C.length : Int))) = (j : Int) := ⟨(max 0 (min a.n (C.length : Int))).toNat, by omega⟩
  have hbr : breakF C a.n = if cutF C j then bareAt (bareAt C (j - 1)) j else C := by unfold breakF; rw [hj, Int.toNat_natCast]
  rw [hj]
  have again : ∀ M'', Ext P M'' → New 42 P M'' r (breakF C a.n) → ∃ j, j < A.length - i ∧ brI P b1 A (.slice ad2 A.length cap2) r L j (row_Break_l1_s (.func (.func n_row_Break_1) #[] #[.pointer (some ⟨b1, 0, none⟩)]) (.slice ad2 A.length cap2) (.int .i64 A.length) (.int .i64 ((i : Int) + 1)) b1 r [] M'') :=
   fun M'' e n => ⟨A.length - (i + 1), by omega, i + 1, M'', rfl, e, by rw [hnext]; exact n, by omega, rfl⟩
  have stay : ¬ cutF C j → New 42 P M' r (breakF C a.n) := fun hc => by rw [hbr, if_neg hc]; exact nM
  obtain ⟨ad3, cap3, rfl⟩ := nM.sl.shape
  refine step_gtr (wpIf.dec (fun c1 => step_len (step_lss (wpIf.dec (fun c2 => step_sub (by omega) (by omega) ?_) (fun c2 => ?_)))) (fun c1 => ?_))
  ·obtain ⟨x, hx⟩ : ∃ x, C[j - 1]? = some x := ⟨_, List.getElem?_eq_getElem (by omega)⟩
   obtain ⟨y, hy⟩ : ∃ y, C[j]? = some y := ⟨_, List.getElem?_eq_getElem (by omega)⟩
   have hj1 : (j : Int) - 1 = ((j - 1 : Nat) : Int) := by omega
   rw [hj1]
   obtain ⟨p1, g1, at1⟩ := nM.sl.addr (i := ((j - 1 : Nat) : Int)) (by omega) (a := x) (by rw [Int.toNat_natCast]; exact hx) (j := .i64) M'
   obtain ⟨p2, g2, l2⟩ := at1.field 3 (v := .int .u8 x.kind) rfl M'
   refine ⟨p1, g1, p2, g2, _, l2, step_eql (wpIf.dec (fun d1 => ?_) (fun d1 => ?_))⟩
   ·obtain ⟨p3, g3, at3⟩ := nM.sl.addr (i := (j : Int)) (by omega) (a := y) (by rw [Int.toNat_natCast]; exact hy) (j := .i64) M'
    obtain ⟨p4, g4, l4⟩ := at3.field 3 (v := .int .u8 y.kind) rfl M'
    refine ⟨p3, g3, p4, g4, _, l4, step_eql (wpIf.dec (fun d2 => ?_) (fun d2 => ?_))⟩
    ·refine step_sub (by omega) (by omega) ?_
     rw [hj1]
     have hk : ∀ M'', Ext P M'' → M''.load1 b1 0 = some (.slice ad3 C.length cap3) := fun M'' e => by simp [Mem.load1, e.same hP]
     refine bare_W eM kP (hk _ eM) nM hx fun M20 e20 n20 => ⟨keepE hPs eM e20, ?_⟩
     have hy' : (C.set (j - 1) x.bare)[j]? = some y := by rw [List.getElem?_set_ne (by omega)]; exact hy
     refine bare_W e20 kP (hk _ e20) n20 hy' fun M22 e22 n22 => ⟨keepE hPs e20 e22, step_add (by omega) (by omega) (again M22 e22 ?_)⟩
     rw [hbr, if_pos (cutF_iff.2 ⟨x, y, by omega, hx, hy, d1, d2⟩), bareAt_some hx, bareAt_some hy']
     exact n22
    ·refine step_add (by omega) (by omega) (again M' eM (stay fun hc => ?_))
     obtain ⟨u, w, _, hu, hw, k1, k2⟩ := cutF_iff.1 hc
     rw [hy] at hw; cases hw; exact d2 k2
   ·refine step_add (by omega) (by omega) (again M' eM (stay fun hc => ?_))
    obtain ⟨u, w, _, hu, hw, k1, k2⟩ := cutF_iff.1 hc
    rw [hx] at hu; cases hu; exact d1 k1
  ·refine step_add (by omega) (by omega) (again M' eM (stay fun hc => ?_))
   obtain ⟨u, w, _, hu, hw, k1, k2⟩ := cutF_iff.1 hc
   have := (List.getElem?_eq_some_iff.1 hw).1
   omega
  ·refine step_add (by omega) (by omega) (again M' eM (stay fun hc => ?_))
   obtain ⟨u, w, h0, hu, hw, k1, k2⟩ := cutF_iff.1 hc
   omega
 ·have hiA : i = A.length := by omega
  subst hiA
  rw [List.take_length] at nM
  exact blockK.hit (row_Break_c0_wp (q M' r (ePM.trans eM) (New.old ePM nM)))
end
end Go.Proofs.Ytifemfnjoobiiaa.Run
