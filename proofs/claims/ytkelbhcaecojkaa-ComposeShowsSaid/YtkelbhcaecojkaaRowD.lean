/- What Level, Whole and Mark of chapter 10 do, and Same of the document's answer. -/
import Derived.Test.YtkelbhcaecojkaaVcR
import Derived.Test.YtkelbhcaecojkaaStep
namespace Go.Proofs.Ytkelbhcaecojkaa.Run
open Go Go.RowKit
set_option linter.unusedVariables false
set_option linter.unusedSimpArgs false
structure At9 where
  a1 : Int
  a2 : Int
  a3 : Int
  a4 : Int
  a5 : Int
  a6 : Int
  a7 : Int
  a8 : Int
  a9 : Int
deriving DecidableEq
structure Ce where
  rune : Int
  m1 : Int
  m2 : Int
  kind : Int
  attr : At9
  label : Int
deriving DecidableEq
def At9.cells (a : At9) : List Value := [.int .u8 a.a1, .int .u8 a.a2, .int .u8 a.a3, .int .u8 a.a4, .int .u8 a.a5, .int .u8 a.a6, .int .u8 a.a7, .int .u8 a.a8, .int .u16 a.a9]
instance : Enc Ce := ⟨14, fun c => [.int .i32 c.rune, .int .i32 c.m1, .int .i32 c.m2, .int .u8 c.kind, .int .u8 c.attr.a1, .int .u8 c.attr.a2, .int .u8 c.attr.a3, .int .u8 c.attr.a4, .int .u8 c.attr.a5, .int .u8 c.attr.a6, .int .u8 c.attr.a7, .int .u8 c.attr.a8, .int .u16 c.attr.a9, .int .u8 c.label], fun _ => rfl, by decide⟩
abbrev Ce.val (c : Ce) : Value := .agg (Enc.enc c).toArray
section
variable {M : Mem} {Q : Value → Mem → Prop}
theorem within_W {α : Type} [E : Enc α] {N : Mem} (hM : M.base ≤ M.size) {v : Value} {L : List α} (h : Sl N v L) {at' : Int} (q : Q (.int .i64 (max 0 (min at' L.length))) M) : W funs known (.func (.func n_row_within) #[] #[]) [.int .i64 at', v] M Q := by
  obtain ⟨a, cap, rfl⟩ := h.shape
  exact row_within_wp hM (step_len (step_min (step_max q)))
theorem own_W (hM : M.base ≤ M.size) {v : Value} {L : List Ce} (h : Sl M v L) (hL : L.length ≤ 2 ^ 30) (q : ∀ M' r, Ext M M' → New 53 M M' r L → Q r M') : W funs known (.func (.func n_row_own) #[] #[]) [v] M Q := by
  obtain ⟨a, cap, rfl⟩ := h.shape
  obtain ⟨v2, M2, h2, u, M3, h3, e3, n3⟩ := own_ok (ty := 53) (bytes := 28) (z := [(.int .i32 0), (.int .i32 0), (.int .i32 0), (.int .u8 0), (.int .u8 0), (.int .u8 0), (.int .u8 0), (.int .u8 0), (.int .u8 0), (.int .u8 0), (.int .u8 0), (.int .u8 0), (.int .u16 0), (.int .u8 0)]) rfl hM h (by omega) (by omega)
  exact row_own_wp hM (step_len ⟨v2, M2, h2, u, M3, h3, q M3 v2 e3 n3⟩)
def Ce.half (c : Ce) : Ce := ⟨0, 0, 0, 2, c.attr, c.label⟩
theorem half_W (hM : M.base ≤ M.size) {c : Ce} (q : ∀ M', Ext M M' → Q c.half.val M') : W funs known (.func (.func n_row_half) #[] #[]) [c.val] M Q := by
  refine row_half_wp hM ⟨rfl, fun b1 M2 hb1 hM2 => ⟨rfl, fun b3 M4 hb3 hM4 => ?_⟩⟩
  have e4 : Ext M M4 := (Ext.push' hM2).trans (Ext.push' hM4)
  have s2 : M2.size = M.size + 1 := by rw [hM2]; rfl
  have s4 : M4.size = M2.size + 1 := by rw [hM4]; rfl
  exact ⟨_, rfl, ⟨rfl, rfl, by decide⟩, fun M5 hM5 => LGetN.as c.half.val (by exact Nat.le_refl 14) rfl (q _ (hM5 ▸ e4.set (by omega) (by omega) _))⟩
abbrev nwI (M : Mem) (c : Ce) (v : Value) (n : Nat) (b1 : Nat) (z : Ce) : Nat → LS → Prop := fun k s => ∃ (i : Nat) (M' : Mem), s = row_New_l1_s v (.int .i64 n) (.int .i64 i) b1 (.int .i32 c.rune) (.int .i32 c.m1) (.int .i32 c.m2) (.int .u8 c.kind) (.int .u8 c.attr.a1) (.int .u8 c.attr.a2) (.int .u8 c.attr.a3) (.int .u8 c.attr.a4) (.int .u8 c.attr.a5) (.int .u8 c.attr.a6) (.int .u8 c.attr.a7) (.int .u8 c.attr.a8) (.int .u16 c.attr.a9) (.int .u8 c.label) [] M' ∧
  Ext M M' ∧ New 53 M M' v (List.replicate i c ++ List.replicate (n - i) z) ∧ i ≤ n ∧ k = n - i
def zeroC : Ce := ⟨0, 0, 0, 0, ⟨0, 0, 0, 0, 0, 0, 0, 0, 0⟩, 0⟩
set_option maxHeartbeats 1000000 in
theorem new_W (hM : M.base ≤ M.size) {n : Int} {c : Ce} (hn : n ≤ 2 ^ 30) (q : ∀ M' r, Ext M M' → New 53 M M' r (List.replicate n.toNat c) → Q r M') : W funs known (.func (.func n_row_New) #[] #[]) [.int .i64 n, c.val] M Q := by
  refine row_New_wp hM ⟨rfl, fun b1 M2 hb1 hM2 => step_max ?_⟩
  have e2 : Ext M M2 := Ext.push' hM2
  have hb2 : b1 < M2.size := by rw [hM2]; simp; omega
  have hmx : max 0 n = ((n.toNat : Nat) : Int) := by omega
  rw [hmx]
  generalize hN : n.toNat = N at q ⊢
  have hN30 : N ≤ 2 ^ 30 := by omega
  refine ⟨.slice (some ⟨M2.size, 0, some 0⟩) N N, M2.push (.cells (rep N (Enc.enc zeroC)) 53 true), ?_, (Ext.push _ _).keep _, step_len ?_⟩
  · simp only [opSem, ev]
    rw [if_pos ⟨by omega, Int.le_refl _, by omega, by omega⟩, Int.toNat_natCast]; rfl
  have e5 : Ext M2 (M2.push (.cells (rep N (Enc.enc zeroC)) 53 true)) := Ext.push _ _
  have n5 : New 53 M2 (M2.push (.cells (rep N (Enc.enc zeroC)) 53 true)) (.slice (some ⟨M2.size, 0, some 0⟩) N N) (List.replicate 0 c ++ List.replicate (N - 0) zeroC) := by
    refine ⟨M2.size, some 0, by simp, ?_, Nat.le_refl _⟩
    rw [Mem.get_push, if_pos rfl, List.replicate_zero, List.nil_append, Nat.sub_zero, flat_replicate]
  generalize M2.push (.cells (rep N (Enc.enc zeroC)) 53 true) = M5 at e5 n5 ⊢
  generalize (Value.slice (some ⟨M2.size, 0, some 0⟩) N N) = v at n5 ⊢
  have k2 := e2.ok hM
  refine ⟨row_New_l1_m, nwI M2 c v N b1 zeroC, ⟨N, 0, M5, rfl, e5, n5, Nat.zero_le _, rfl⟩, ?_⟩
  rintro k s ⟨i, M', rfl, eM, nM0, hi, rfl⟩
  have nM : New 53 M2 M' v (List.replicate i c ++ List.replicate (N - i) zeroC) := nM0
  refine row_New_l1_wp (I := nwI M2 c v N b1 zeroC) ?_
  refine step_lss (wpIf.dec (fun h1 => ?_) (fun h1 => ?_))
  · have hlt : i < N := by omega
    have hget : (List.replicate i c ++ List.replicate (N - i) zeroC)[i]? = some zeroC := by
      rw [List.getElem?_append_right (by simp), List.length_replicate, Nat.sub_self, List.getElem?_replicate, if_pos (by omega)]
    obtain ⟨b, g1, u, M4, g2, e4, n4⟩ := nM.store eM k2 hget (f := 0) (vs := (Enc.enc c)) (a' := c) (x := c.val) (by exact Nat.le_refl 14) rfl (by simp [Ce.val, Value.cells]) rfl (j := .i64)
    refine ⟨_, g1, u, M4, g2, fun z hz _ => by rw [List.mem_singleton] at hz; subst hz; rw [e4.get _ hb2, eM.get _ hb2], step_add (by omega) (by omega) ⟨N - (i + 1), by omega, i + 1, M4, rfl, e4, ?_, by omega, rfl⟩⟩
    have : (List.replicate i c ++ List.replicate (N - i) zeroC).set i c = List.replicate (i + 1) c ++ List.replicate (N - (i + 1)) zeroC := by
      rw [List.set_append_right _ _ (by simp), List.length_replicate, Nat.sub_self, show N - i = (N - (i + 1)) + 1 by omega, List.replicate_succ, List.set_cons_zero, List.replicate_succ', List.append_assoc]; rfl
    rw [← this]; exact n4
  · have hiN : i = N := by omega
    subst hiN
    refine blockK.hit (row_New_c0_wp ?_)
    refine q M' v (e2.trans eM) ?_
    have := nM.old e2
    rw [Nat.sub_self, List.replicate_zero, List.append_nil] at this
    exact this
structure Lv where
  n : Int
instance : Enc Lv := ⟨1, fun a => [.int .u8 a.n], fun _ => rfl, by decide⟩
def joinF (x y : Int) : Int := if x > 0 ∨ y > 0 then 1 else 0
def Ce.raise (l : Int) (c : Ce) : Ce := { c with label := joinF c.label l }
def Ce.bare (c : Ce) : Ce := ⟨0, 0, 0, 0, c.attr, c.label⟩
theorem bare_W {M₀ : Mem} (e : Ext M₀ M) (hb : M₀.base ≤ M₀.size) {b : Nat} {v : Value} (hk : M.load1 b 0 = some v) {L : List Ce} (n : New 53 M₀ M v L) {i : Nat} {c : Ce} (hi : L[i]? = some c) (q : ∀ M', Ext M₀ M' → New 53 M₀ M' v (L.set i c.bare) → Q (.tuple #[]) M') :
    W funs known (.func (.func n_row_Break_1) #[] #[.pointer (some ⟨b, 0, none⟩)]) [.int .i64 i] M Q := by
  have hl : opSem (.load none (.const (.pointer (some ⟨b, 0, none⟩)))) [] M = some (v, M) := by simp only [opSem, ev, hk]; rfl
  obtain ⟨p, hp, hat⟩ := n.sl.addr (i := (i : Int)) (by omega) (a := c) (by rw [Int.toNat_natCast]; exact hi) (j := .i64) M
  obtain ⟨p1, hp1, ld1⟩ := hat.fields 4 9 (l := c.attr.cells) rfl (by decide) M
  obtain ⟨p2, hp2, ld2⟩ := hat.field 13 (v := .int .u8 c.label) rfl M
  obtain ⟨b', g1, u, M4, g2, e4, n4⟩ := n.store e hb hi (f := 0) (vs := (Enc.enc c.bare)) (a' := c.bare) (x := c.bare.val) (by exact Nat.le_refl 14) rfl (by simp [Ce.val, Value.cells]) rfl (j := .i64)
  exact row_Break_1_wp (e.ok hb) ⟨v, hl, v, hl, p, hp, p1, hp1, _, ld1, v, hl, p, hp, p2, hp2, _, ld2, c.bare.val, rfl, _, g1, u, M4, g2, q M4 e4 n4⟩
end
end Go.Proofs.Ytkelbhcaecojkaa.Run
namespace Go.Proofs.Ytkelbhcaecojkaa.Run
open Go Go.RowKit
set_option linter.unusedVariables false
set_option linter.unusedSimpArgs false
def cutF (L : List Ce) (j : Nat) : Bool := match L[j - 1]?, L[j]? with
  | some a, some b => decide (0 < j ∧ a.kind = 1 ∧ b.kind = 2)
  | _, _ => false
theorem cutF_iff {L : List Ce} {j : Nat} : cutF L j = true ↔ ∃ a b, 0 < j ∧ L[j - 1]? = some a ∧ L[j]? = some b ∧ a.kind = 1 ∧ b.kind = 2 := by
  unfold cutF
  constructor
  · intro h
    split at h
    · rename_i a b ha hb
      have := of_decide_eq_true h
      exact ⟨a, b, this.1, ha, hb, this.2⟩
    · cases h
  · rintro ⟨a, b, h0, ha, hb, h1, h2⟩
    rw [ha, hb]
    exact decide_eq_true ⟨h0, h1, h2⟩
def bareAt (L : List Ce) (j : Nat) : List Ce := match L[j]? with
  | some c => L.set j c.bare
  | none => L
def breakF (L : List Ce) (i : Int) : List Ce := if cutF L (max 0 (min i L.length)).toNat then bareAt (bareAt L ((max 0 (min i L.length)).toNat - 1)) (max 0 (min i L.length)).toNat else L
theorem bareAt_len (L : List Ce) (j : Nat) : (bareAt L j).length = L.length := by unfold bareAt; split <;> simp
theorem breakF_len (L : List Ce) (i : Int) : (breakF L i).length = L.length := by unfold breakF; split <;> simp [bareAt_len]
theorem bareAt_some {L : List Ce} {j : Nat} {c : Ce} (h : L[j]? = some c) : bareAt L j = L.set j c.bare := by unfold bareAt; rw [h]
theorem breaks_len (A : List In) : ∀ L : List Ce, (A.foldl (fun L a => breakF L a.n) L).length = L.length := by
  induction A with
  | nil => intro L; rfl
  | cons a A ih => intro L; rw [List.foldl_cons, ih, breakF_len]
section
variable {Q : Value → Mem → Prop}
abbrev brI (P : Mem) (b1 : Nat) (A : List In) (va r : Value) (L : List Ce) : Nat → LS → Prop := fun k s => ∃ (i : Nat) (M' : Mem), s = row_Break_l1_s (.func (.func n_row_Break_1) #[] #[.pointer (some ⟨b1, 0, none⟩)]) va (.int .i64 A.length) (.int .i64 i) b1 r [] M' ∧ Ext P M' ∧ New 53 P M' r ((A.take i).foldl (fun L a => breakF L a.n) L) ∧ i ≤ A.length ∧ k = A.length - i
set_option maxHeartbeats 1000000 in
theorem break_W {M : Mem} (hM : M.base ≤ M.size) {v va : Value} {L : List Ce} {A : List In} (h : Sl M v L) (hA : Sl M va A) (hL : L.length ≤ 2 ^ 30) (hAl : A.length ≤ 2 ^ 30) (q : ∀ M' r, Ext M M' → New 53 M M' r (A.foldl (fun L a => breakF L a.n) L) → Q r M') :
    W funs known (.func (.func n_row_Break) #[] #[]) [v, va] M Q := by
  obtain ⟨ad, cap, rfl⟩ := h.shape
  obtain ⟨ad2, cap2, rfl⟩ := hA.shape
  refine row_Break_wp hM ⟨rfl, fun b1 M2 hb1 hM2 => ?_⟩
  have e2 : Ext M M2 := Ext.push' hM2
  have s2 : M2.size = M.size + 1 := by rw [hM2]; rfl
  refine own_W (e2.ok hM) (h.ext e2) hL fun M4 r e4 n4 => ⟨e4.keep _, r, ?_, ?_, by decide, fun M5 hM5 => step_len ?_⟩
  · obtain ⟨b, sp, rfl, _⟩ := n4; rfl
  · obtain ⟨b, sp, rfl, _⟩ := n4; rfl
  have hb2 : b1 < M2.size := by omega
  have s4 := e4.size
  have ePM : Ext M (M2.set b1 (.cells [r] 35 true)) := e2.set (by omega) hb2 _
  have hP : (M2.set b1 (.cells [r] 35 true)).get b1 = some (.cells [r] 35 true) := by rw [Mem.get_set _ _ _ hb2, if_pos rfl]
  have e5 : Ext (M2.set b1 (.cells [r] 35 true)) M5 := by
    rw [hM5]
    refine ⟨e4.base, by simpa using s4, fun c hc => ?_⟩
    have hc : c < M2.size := by simpa using hc
    rw [Mem.get_set _ _ _ (by omega), Mem.get_set _ _ _ hb2]
    split
    · rfl
    · exact e4.get c hc
  have n5 : New 53 (M2.set b1 (.cells [r] 35 true)) M5 r L := by
    obtain ⟨b, sp, rfl, g, hb⟩ := n4
    refine ⟨b, sp, rfl, ?_, by simpa using hb⟩
    rw [hM5, Mem.get_set _ _ _ (by omega), if_neg (by omega)]; exact g
  generalize M2.set b1 (.cells [r] 35 true) = P at ePM hP e5 n5
  have hPs := Mem.lt_of_get hP
  have kP := ePM.ok hM
  refine ⟨row_Break_l1_m, brI P b1 A (.slice ad2 A.length cap2) r L, ⟨A.length, 0, M5, rfl, e5, n5, Nat.zero_le _, rfl⟩, ?_⟩
  rintro k s ⟨i, M', rfl, eM, nM0, hi, rfl⟩
  have nM : New 53 P M' r ((A.take i).foldl (fun L a => breakF L a.n) L) := nM0
  refine row_Break_l1_wp (I := brI P b1 A (.slice ad2 A.length cap2) r L) ?_
  refine step_lss (wpIf.dec (fun h1 => ?_) (fun h1 => ?_))
  · have hlt : i < A.length := by omega
    obtain ⟨a, ha⟩ : ∃ a, A[i]? = some a := ⟨_, List.getElem?_eq_getElem hlt⟩
    have hnext : (A.take (i + 1)).foldl (fun L a => breakF L a.n) L = breakF ((A.take i).foldl (fun L a => breakF L a.n) L) a.n := by
      rw [List.take_add_one, ha, List.foldl_append]; rfl
    have hlen := breaks_len (A.take i) L
    generalize (A.take i).foldl (fun L a => breakF L a.n) L = C at nM hnext hlen
    obtain ⟨p, hp, hat⟩ := (hA.ext (ePM.trans eM)).addr (i := (i : Int)) (by omega) (a := a) (by rw [Int.toNat_natCast]; exact ha) (j := .i64) M'
    refine ⟨p, hp, _, hat.load1 rfl, within_W (eM.ok kP) nM.sl ⟨KeepB.refl _ _, ?_⟩⟩
    obtain ⟨j, hj⟩ : ∃ j : Nat, (max 0 (min a.n (C.length : Int))) = (j : Int) := ⟨(max 0 (min a.n (C.length : Int))).toNat, by omega⟩
    have hbr : breakF C a.n = if cutF C j then bareAt (bareAt C (j - 1)) j else C := by unfold breakF; rw [hj, Int.toNat_natCast]
    rw [hj]
    have again : ∀ M'', Ext P M'' → New 53 P M'' r (breakF C a.n) → ∃ j, j < A.length - i ∧ brI P b1 A (.slice ad2 A.length cap2) r L j (row_Break_l1_s (.func (.func n_row_Break_1) #[] #[.pointer (some ⟨b1, 0, none⟩)]) (.slice ad2 A.length cap2) (.int .i64 A.length) (.int .i64 ((i : Int) + 1)) b1 r [] M'') :=
      fun M'' e n => ⟨A.length - (i + 1), by omega, i + 1, M'', rfl, e, by rw [hnext]; exact n, by omega, rfl⟩
    have stay : ¬ cutF C j → New 53 P M' r (breakF C a.n) := fun hc => by rw [hbr, if_neg hc]; exact nM
    obtain ⟨ad3, cap3, rfl⟩ := nM.sl.shape
    refine step_gtr (wpIf.dec (fun c1 => step_len (step_lss (wpIf.dec (fun c2 => step_sub (by omega) (by omega) ?_) (fun c2 => ?_)))) (fun c1 => ?_))
    · obtain ⟨x, hx⟩ : ∃ x, C[j - 1]? = some x := ⟨_, List.getElem?_eq_getElem (by omega)⟩
      obtain ⟨y, hy⟩ : ∃ y, C[j]? = some y := ⟨_, List.getElem?_eq_getElem (by omega)⟩
      have hj1 : (j : Int) - 1 = ((j - 1 : Nat) : Int) := by omega
      rw [hj1]
      obtain ⟨p1, g1, at1⟩ := nM.sl.addr (i := ((j - 1 : Nat) : Int)) (by omega) (a := x) (by rw [Int.toNat_natCast]; exact hx) (j := .i64) M'
      obtain ⟨p2, g2, l2⟩ := at1.field 3 (v := .int .u8 x.kind) rfl M'
      refine ⟨p1, g1, p2, g2, _, l2, step_eql (wpIf.dec (fun d1 => ?_) (fun d1 => ?_))⟩
      · obtain ⟨p3, g3, at3⟩ := nM.sl.addr (i := (j : Int)) (by omega) (a := y) (by rw [Int.toNat_natCast]; exact hy) (j := .i64) M'
        obtain ⟨p4, g4, l4⟩ := at3.field 3 (v := .int .u8 y.kind) rfl M'
        refine ⟨p3, g3, p4, g4, _, l4, step_eql (wpIf.dec (fun d2 => ?_) (fun d2 => ?_))⟩
        · refine step_sub (by omega) (by omega) ?_
          rw [hj1]
          have hk : ∀ M'', Ext P M'' → M''.load1 b1 0 = some (.slice ad3 C.length cap3) := fun M'' e => by simp [Mem.load1, e.same hP]
          refine bare_W eM kP (hk _ eM) nM hx fun M20 e20 n20 => ⟨keepE hPs eM e20, ?_⟩
          have hy' : (C.set (j - 1) x.bare)[j]? = some y := by rw [List.getElem?_set_ne (by omega)]; exact hy
          refine bare_W e20 kP (hk _ e20) n20 hy' fun M22 e22 n22 => ⟨keepE hPs e20 e22, step_add (by omega) (by omega) (again M22 e22 ?_)⟩
          rw [hbr, if_pos (cutF_iff.2 ⟨x, y, by omega, hx, hy, d1, d2⟩), bareAt_some hx, bareAt_some hy']
          exact n22
        · refine step_add (by omega) (by omega) (again M' eM (stay fun hc => ?_))
          obtain ⟨u, w, _, hu, hw, k1, k2⟩ := cutF_iff.1 hc
          rw [hy] at hw; cases hw; exact d2 k2
      · refine step_add (by omega) (by omega) (again M' eM (stay fun hc => ?_))
        obtain ⟨u, w, _, hu, hw, k1, k2⟩ := cutF_iff.1 hc
        rw [hx] at hu; cases hu; exact d1 k1
    · refine step_add (by omega) (by omega) (again M' eM (stay fun hc => ?_))
      obtain ⟨u, w, _, hu, hw, k1, k2⟩ := cutF_iff.1 hc
      have := (List.getElem?_eq_some_iff.1 hw).1
      omega
    · refine step_add (by omega) (by omega) (again M' eM (stay fun hc => ?_))
      obtain ⟨u, w, h0, hu, hw, k1, k2⟩ := cutF_iff.1 hc
      omega
  · have hiA : i = A.length := by omega
    subst hiA
    rw [List.take_length] at nM
    exact blockK.hit (row_Break_c0_wp (q M' r (ePM.trans eM) (New.old ePM nM)))
end
end Go.Proofs.Ytkelbhcaecojkaa.Run
namespace Go.Proofs.Ytkelbhcaecojkaa.Run
open Go Go.RowKit
set_option linter.unusedVariables false
set_option linter.unusedSimpArgs false
def clampN (x : Int) (n : Nat) : Nat := (max 0 (min x n)).toNat
theorem clampN_eq (x : Int) (n : Nat) : ((clampN x n : Nat) : Int) = max 0 (min x n) := by unfold clampN; omega
theorem clampN_le (x : Int) (n : Nat) : clampN x n ≤ n := by unfold clampN; omega
theorem breakF_clamp (L : List Ce) (x : Int) : breakF L x = if cutF L (clampN x L.length) then bareAt (bareAt L (clampN x L.length - 1)) (clampN x L.length) else L := rfl
section
variable {M : Mem} {Q : Value → Mem → Prop}
abbrev Parts := List (Value × List Ce)
abbrev Parts.row (P : Parts) : List Vl := P.map fun p => ⟨p.1⟩
abbrev Parts.all (P : Parts) : List Ce := (P.map fun p => p.2).flatten
abbrev jI (M : Mem) (P : Parts) (va : Value) : Nat → LS → Prop := fun k s => ∃ (i : Nat) (M' : Mem) (r : Value), s = row_joint_l1_s r va (.int .i64 P.length) (.int .i64 i) [] M' ∧ Ext M M' ∧ New 53 M M' r (Parts.all (P.take i)) ∧ i ≤ P.length ∧ k = P.length - i
theorem all_take_len (P : Parts) (i : Nat) : (Parts.all (P.take i)).length ≤ (Parts.all P).length := by
  conv => rhs; rw [← List.take_append_drop i P]
  simp only [Parts.all, List.map_append, List.flatten_append, List.length_append]; omega
theorem joint_W (hM : M.base ≤ M.size) {va : Value} {P : Parts} (h : Sl M va P.row) (hp : ∀ p ∈ P, Srcs M p.1 p.2) (hn : P.all.length ≤ 2 ^ 31) (hl : P.length ≤ 2 ^ 30) (q : ∀ M' r, Ext M M' → New 53 M M' r P.all → Q r M') : W funs known (.func (.func n_row_joint) #[] #[]) [va] M Q := by
  have hlen : P.row.length = P.length := by simp
  obtain ⟨ad, cap, rfl⟩ := h.shape
  rw [hlen] at h ⊢
  refine row_joint_wp hM (step_lit ([] : List Ce) rfl rfl fun r0 M2 e2 n2 => step_len ?_)
  refine ⟨row_joint_l1_m, jI M P (.slice ad P.length cap), ⟨P.length, 0, M2, r0, rfl, e2, n2, Nat.zero_le _, rfl⟩, ?_⟩
  rintro k s ⟨i, M', r, rfl, eM, nM0, hi, rfl⟩
  have nM : New 53 M M' r (Parts.all (P.take i)) := nM0
  refine row_joint_l1_wp (I := jI M P (.slice ad P.length cap)) ?_
  refine step_lss (wpIf.dec (fun h1 => ?_) (fun h1 => ?_))
  · have hlt : i < P.length := by omega
    obtain ⟨p, hpi⟩ : ∃ p, P[i]? = some p := ⟨_, List.getElem?_eq_getElem hlt⟩
    have hat : P.row[(i : Int).toNat]? = some ⟨p.1⟩ := by rw [Int.toNat_natCast, List.getElem?_map, hpi]; rfl
    have hnext : Parts.all (P.take (i + 1)) = Parts.all (P.take i) ++ p.2 := by
      rw [List.take_add_one, hpi]; simp [Parts.all]
    have hle := all_take_len P (i + 1)
    rw [hnext, List.length_append] at hle
    refine rd1 (h.ext eM) (by omega) hat rfl (fun _ => step_app eM hM nM ((hp p (List.mem_of_getElem? hpi)).ext eM) (by omega) (by omega) fun r' M5 e5 n5 _ => step_add (by omega) (by omega) ⟨P.length - (i + 1), by omega, i + 1, M5, r', rfl, e5, by rw [hnext]; exact n5, by omega, rfl⟩)
  · have hiP : i = P.length := by omega
    subst hiP
    rw [List.take_length] at nM
    exact blockK.hit (row_joint_c0_wp (q M' r eM nM))
theorem fill1 {α : Type} [Enc α] {N : Mem} {z1 : Value} {v1 : Value} {L1 : List α} (h1 : Srcs N v1 L1) :
    fillL [z1] ([(0, 1, Operand.const v1)].map fun p => (p.1, p.2.1, ev [] p.2.2)) = some (flat [(⟨v1⟩ : Vl)]) := by
  simp [fillL, ev, h1.cells, splice, flat, Enc.enc]
theorem fill2 {α : Type} [Enc α] {N : Mem} {z1 z2 : Value} {v1 v2 : Value} {L1 L2 : List α} (h1 : Srcs N v1 L1) (h2 : Srcs N v2 L2) :
    fillL [z1, z2] ([(0, 1, Operand.const v1), (1, 1, Operand.const v2)].map fun p => (p.1, p.2.1, ev [] p.2.2)) = some (flat [(⟨v1⟩ : Vl), ⟨v2⟩]) := by
  simp [fillL, ev, h1.cells, h2.cells, splice, flat, Enc.enc]
theorem fill3 {α : Type} [Enc α] {N : Mem} {z1 z2 z3 : Value} {v1 v2 v3 : Value} {L1 L2 L3 : List α} (h1 : Srcs N v1 L1) (h2 : Srcs N v2 L2) (h3 : Srcs N v3 L3) :
    fillL [z1, z2, z3] ([(0, 1, Operand.const v1), (1, 1, Operand.const v2), (2, 1, Operand.const v3)].map fun p => (p.1, p.2.1, ev [] p.2.2)) = some (flat [(⟨v1⟩ : Vl), ⟨v2⟩, ⟨v3⟩]) := by
  simp [fillL, ev, h1.cells, h2.cells, h3.cells, splice, flat, Enc.enc]
theorem joint3_W {b : Nat} (hM : M.base ≤ M.size) {z1 z2 z3 : Value} {v1 v2 v3 : Value} {L1 L2 L3 : List Ce} (h1 : Srcs M v1 L1) (h2 : Srcs M v2 L2) (h3 : Srcs M v3 L3) (hn : L1.length + L2.length + L3.length ≤ 2 ^ 31) (q : ∀ M' r, Ext M M' → New 53 M M' r (L1 ++ L2 ++ L3) → Q r M') :
    ∃ va M1, opSem (.lit 35 3 [z1, z2, z3] [(0, (1, (.const v1))), (1, (1, (.const v2))), (2, (1, (.const v3)))]) [] M = some (va, M1) ∧ KeepB [b] M M1 ∧ W funs known (.func (.func n_row_joint) #[] #[]) [va] M1 (fun r M2 => KeepB [b] M1 M2 ∧ Q r M2) := by
  refine step_lit [(⟨v1⟩ : Vl), ⟨v2⟩, ⟨v3⟩] (fill3 h1 h2 h3) rfl fun va M1 e1 n1 => ⟨e1.keep _, ?_⟩
  refine joint_W (P := [(v1, L1), (v2, L2), (v3, L3)]) (e1.ok hM) n1.sl (fun p hp => ?_) (by simp [Parts.all]; omega) (by simp) fun M2 r e2 n2 => ⟨e2.keep _, q M2 r (e1.trans e2) ?_⟩
  · simp only [List.mem_cons, List.not_mem_nil, or_false] at hp
    rcases hp with rfl | rfl | rfl
    · exact h1.ext e1
    · exact h2.ext e1
    · exact h3.ext e1
  · have := n2.old e1
    simpa [Parts.all] using this
theorem joint2_W {b : Nat} (hM : M.base ≤ M.size) {z1 z2 : Value} {v1 v2 : Value} {L1 L2 : List Ce} (h1 : Srcs M v1 L1) (h2 : Srcs M v2 L2) (hn : L1.length + L2.length ≤ 2 ^ 31) (q : ∀ M' r, Ext M M' → New 53 M M' r (L1 ++ L2) → Q r M') :
    ∃ va M1, opSem (.lit 35 2 [z1, z2] [(0, (1, (.const v1))), (1, (1, (.const v2)))]) [] M = some (va, M1) ∧ KeepB [b] M M1 ∧ W funs known (.func (.func n_row_joint) #[] #[]) [va] M1 (fun r M2 => KeepB [b] M1 M2 ∧ Q r M2) := by
  refine step_lit [(⟨v1⟩ : Vl), ⟨v2⟩] (fill2 h1 h2) rfl fun va M1 e1 n1 => ⟨e1.keep _, ?_⟩
  refine joint_W (P := [(v1, L1), (v2, L2)]) (e1.ok hM) n1.sl (fun p hp => ?_) (by simp [Parts.all]; omega) (by simp) fun M2 r e2 n2 => ⟨e2.keep _, q M2 r (e1.trans e2) ?_⟩
  · simp only [List.mem_cons, List.not_mem_nil, or_false] at hp
    rcases hp with rfl | rfl
    · exact h1.ext e1
    · exact h2.ext e1
  · have := n2.old e1
    simpa [Parts.all] using this
def brk2 (L : List Ce) (i j : Int) : List Ce := breakF (breakF L i) j
theorem brk2_len (L : List Ce) (i j : Int) : (brk2 L i j).length = L.length := by unfold brk2; rw [breakF_len, breakF_len]
def insertF (L : List Ce) (x n : Int) (c : Ce) : List Ce :=
  (brk2 L (clampN x L.length : Nat) (L.length - clampN n (L.length - clampN x L.length) : Nat)).take (clampN x L.length) ++ List.replicate (clampN n (L.length - clampN x L.length)) c ++
  ((brk2 L (clampN x L.length : Nat) (L.length - clampN n (L.length - clampN x L.length) : Nat)).take (L.length - clampN n (L.length - clampN x L.length))).drop (clampN x L.length)
def deleteF (L : List Ce) (x n : Int) (c : Ce) : List Ce :=
  (brk2 L (clampN x L.length : Nat) (clampN x L.length + clampN n (L.length - clampN x L.length) : Nat)).take (clampN x L.length) ++
  (brk2 L (clampN x L.length : Nat) (clampN x L.length + clampN n (L.length - clampN x L.length) : Nat)).drop (clampN x L.length + clampN n (L.length - clampN x L.length)) ++ List.replicate (clampN n (L.length - clampN x L.length)) c
def resizeF (L : List Ce) (n : Nat) (c : Ce) : List Ce := (breakF L n).take n ++ List.replicate (n - L.length) c
theorem resize_W (hM : M.base ≤ M.size) {v : Value} {L : List Ce} (h : Sl M v L) (hL : L.length ≤ 2 ^ 30) {x : Int} (hx : x ≤ 2 ^ 30) {c : Ce} (q : ∀ M' r, Ext M M' → New 53 M M' r (resizeF L x.toNat c) → Q r M') : W funs known (.func (.func n_row_Resize) #[] #[]) [v, .int .i64 x, c.val] M Q := by
  obtain ⟨ad, cap, rfl⟩ := h.shape
  refine row_Resize_wp hM ⟨rfl, fun b1 M2 hb1 hM2 => step_max ?_⟩
  have e2 : Ext M M2 := Ext.push' hM2
  have k2 := e2.ok hM
  rw [show max 0 x = ((x.toNat : Nat) : Int) by omega]
  have hn : x.toNat ≤ 2 ^ 30 := by omega
  generalize x.toNat = n at q hn ⊢
  refine step_lit [(⟨(n : Int)⟩ : In)] rfl rfl fun va M5 e5 n5 => ⟨e5.keep _, ?_⟩
  refine break_W (e5.ok k2) (h.ext (e2.trans e5)) n5.sl hL (by simp) fun M7 r e7 n7 => ⟨e7.keep _, ?_⟩
  have n7 : New 53 M5 M7 r (breakF L n) := n7
  unfold resizeF at q
  have hB := breakF_len L n
  generalize breakF L n = B at q n7 hB
  have k7 := e7.ok (e5.ok k2)
  refine step_lenS n7.sl (step_min (step_to n7.sl (by omega) (by omega) fun v10 s10 => step_lenS n7.sl (step_sub (by omega) (by omega) ?_)))
  refine new_W k7 (by omega) fun M14 r13 e14 n14 => ⟨e14.keep _, ?_⟩
  rw [hB, show ((n : Int) - L.length).toNat = n - L.length by omega] at n14
  have ht : B.take (min (n : Int) B.length).toNat = B.take n := by
    by_cases hc : n ≤ B.length
    · rw [show (min (n : Int) B.length).toNat = n by omega]
    · rw [show (min (n : Int) B.length).toNat = B.length by omega, List.take_length, List.take_of_length_le (by omega)]
  rw [ht] at s10
  refine joint2_W (e14.ok k7) (s10.ext e14) n14.sl.srcs ?_ fun M' r' e' n' => ?_
  · simp only [List.length_take, List.length_replicate]; omega
  · have e0 := ((e2.trans e5).trans e7).trans e14
    exact q M' r' (e0.trans e') (n'.old e0)
def putC (c : Ce) (wide : Bool) : List Ce := if wide then [{ c with kind := 1 }, c.half] else [{ c with kind := 0 }]
def putF (L : List Ce) (x : Int) (c : Ce) (wide : Bool) : List Ce :=
  if x < 0 ∨ x + (putC c wide).length > L.length then L else (brk2 L x (x + (putC c wide).length)).take x.toNat ++ putC c wide ++ (brk2 L x (x + (putC c wide).length)).drop (x + (putC c wide).length).toNat
end
end Go.Proofs.Ytkelbhcaecojkaa.Run
namespace Go.Proofs.Ytkelbhcaecojkaa.Run
open Go Go.RowKit
set_option linter.unusedVariables false
set_option linter.unusedSimpArgs false
theorem eqCells_int {ss : List Nat} {k : IntKind} {a b : Int} {xs ys : List Value} {r : Bool} (h : eqCells ss xs ys = some r) : eqCells (0 :: ss) (.int k a :: xs) (.int k b :: ys) = some (decide (a = b) && r) := by
  simp only [eqCells, cellEq, if_true]
  by_cases hc : a = b
  · subst hc; simp [h]
  · simp [hc]
theorem eqCells_nil : eqCells [] [] [] = some true := rfl
abbrev sig14 : List Nat := [0, 0, 0, 0, 0, 0, 0, 0, 0, 0, 0, 0, 0, 0]
theorem eqCe (a b : Ce) : eqV true sig14 a.val b.val = some (decide (a = b)) := by
  obtain ⟨a1, a2, a3, a4, ⟨a5, a6, a7, a8, a9, a10, a11, a12, a13⟩, a14⟩ := a
  obtain ⟨b1, b2, b3, b4, ⟨b5, b6, b7, b8, b9, b10, b11, b12, b13⟩, b14⟩ := b
  show eqCells sig14 _ _ = _
  refine Eq.trans (eqCells_int (eqCells_int (eqCells_int (eqCells_int (eqCells_int (eqCells_int (eqCells_int (eqCells_int (eqCells_int (eqCells_int (eqCells_int (eqCells_int (eqCells_int (eqCells_int eqCells_nil)))))))))))))) ?_
  congr 1
  simp only [Ce.mk.injEq, At9.mk.injEq, Bool.and_true]
  rw [Bool.eq_iff_iff]
  simp only [Bool.and_eq_true, decide_eq_true_eq]
  constructor <;> (intro h; simp only [h, and_self, true_and])
theorem step_neqCe {P : Value → Prop} {a b : Ce} (p : P (.bool (decide (a ≠ b)))) : ∃ v, binV .neq 2 sig14 a.val b.val = some v ∧ P v := by
  refine ⟨.bool (decide (a ≠ b)), ?_, p⟩
  have h : binV .neq 2 sig14 a.val b.val = (eqV true sig14 a.val b.val).bind (negIf .neq) := rfl
  rw [h, eqCe]
  simp [negIf]
section
variable {M : Mem} {Q : Value → Mem → Prop}
def wholeF : List Ce → Bool
  | [] => true
  | c :: r => if c.kind = 0 then wholeF r else if c.kind = 1 then (match r with
    | [] => false
    | d :: r' => decide (d = c.half) && wholeF r') else false
theorem wholeF_cons (c : Ce) (r : List Ce) : wholeF (c :: r) = if c.kind = 0 then wholeF r else if c.kind = 1 then (match r with
    | [] => false
    | d :: r' => decide (d = c.half) && wholeF r') else false := by conv => lhs; unfold wholeF
abbrev whI (M : Mem) (L : List Ce) (v : Value) : Nat → LS → Prop := fun k s => ∃ (i : Nat) (M' : Mem), s = row_Whole_l1_s v (.int .i64 i) [] M' ∧ Ext M M' ∧ i ≤ L.length ∧ wholeF L = wholeF (L.drop i) ∧ k = L.length - i
theorem whole_W (hM : M.base ≤ M.size) {v : Value} {L : List Ce} (h : Sl M v L) (hL : L.length ≤ 2 ^ 40) (q : ∀ M', Ext M M' → Q (.bool (wholeF L)) M') : W funs known (.func (.func n_row_Whole) #[] #[]) [v] M Q := by
  obtain ⟨ad, cap, rfl⟩ := h.shape
  refine row_Whole_wp hM ?_
  refine ⟨row_Whole_l1_m, whI M L (.slice ad L.length cap), ⟨L.length, 0, M, rfl, Ext.refl M, Nat.zero_le _, rfl, rfl⟩, ?_⟩
  rintro k s ⟨i, M', rfl, eM, hi, hw, rfl⟩
  refine row_Whole_l1_wp (I := whI M L (.slice ad L.length cap)) ?_
  have hS := h.ext eM
  refine step_len (step_lss (wpIf.dec (fun h1 => ?_) (fun h1 => ?_)))
  · have hlt : i < L.length := by omega
    obtain ⟨a, ha⟩ : ∃ a, L[i]? = some a := ⟨_, List.getElem?_eq_getElem hlt⟩
    have hd : L.drop i = a :: L.drop (i + 1) := by
      obtain ⟨_, rfl⟩ := List.getElem?_eq_some_iff.1 ha
      exact List.drop_eq_getElem_cons hlt
    rw [hd, wholeF_cons] at hw
    refine rd_f hS (by omega) (by rw [Int.toNat_natCast]; exact ha) (f := 3) rfl fun _ _ => step_eql (wpIf.dec (fun h2 => ?_) (fun h2 => ?_))
    · rw [if_pos h2] at hw
      exact step_add (by omega) (by omega) ⟨L.length - (i + 1), by omega, i + 1, M', rfl, eM, by omega, hw, rfl⟩
    rw [if_neg h2] at hw
    refine step_eql (wpIf.dec (fun h3 => ?_) (fun h3 => ?_))
    · rw [if_pos h3] at hw
      refine step_add (by omega) (by omega) (step_len (step_eql (wpIf.dec (fun h4 => ?_) (fun h4 => ?_))))
      · rw [List.drop_of_length_le (by omega)] at hw
        have := q M' eM
        rw [hw] at this
        exact this
      obtain ⟨d, hb⟩ : ∃ d, L[i + 1]? = some d := ⟨_, List.getElem?_eq_getElem (by omega)⟩
      have hd1 : L.drop (i + 1) = d :: L.drop (i + 2) := by
        obtain ⟨_, rfl⟩ := List.getElem?_eq_some_iff.1 hb
        exact List.drop_eq_getElem_cons _
      rw [hd1] at hw
      refine step_add (by omega) (by omega) ?_
      refine rd (i := (i : Int) + 1) hS (by omega) (by rw [show ((i : Int) + 1).toNat = i + 1 by omega]; exact hb) fun _ => ?_
      refine rd hS (by omega) (by rw [Int.toNat_natCast]; exact ha) fun _ => ?_
      refine half_W (freeze_ok _) fun M18 e18 => step_neqCe (wpIf.dec (fun h5 => ?_) (fun h5 => ?_))
      · simp only [h5, decide_false, Bool.false_and] at hw
        have := q _ (eM.trans (Ext.thaw e18))
        rw [hw] at this
        exact this
      · have h6 : d = a.half := Decidable.not_not.1 h5
        simp only [h6, decide_true, Bool.true_and] at hw
        refine step_add (by omega) (by omega) (step_add (by omega) (by omega) ⟨L.length - (i + 2), by omega, i + 2, _, ?_, eM.trans (Ext.thaw e18), by omega, hw, rfl⟩)
        rw [show ((i : Int) + 1 + 1) = ((i + 2 : Nat) : Int) by omega]
    · rw [if_neg h3] at hw
      have := q M' eM
      rw [hw] at this
      exact this
  · refine blockK.hit (row_Whole_c0_wp ?_)
    have := q M' eM
    rw [hw, List.drop_of_length_le (by omega)] at this
    exact this
abbrev saI (M : Mem) (A B : List Ce) (v w : Value) : Nat → LS → Prop := fun k s => ∃ (i : Nat), s = ref10_Same_l1_s v w (.int .i64 i) [] M ∧ i ≤ A.length ∧ A.take i = B.take i ∧ k = A.length - i
theorem same_W (hM : M.base ≤ M.size) {v w : Value} {A B : List Ce} (h : Sl M v A) (h' : Sl M w B) (hL : A.length ≤ 2 ^ 40) (q : Q (.bool (decide (A = B))) M) : W funs known (.func (.func n_ref10_Same) #[] #[]) [v, w] M Q := by
  obtain ⟨ad, cap, rfl⟩ := h.shape
  obtain ⟨ad', cap', rfl⟩ := h'.shape
  refine ref10_Same_wp hM (step_len (step_len (step_neq (wpIf.dec (fun h1 => ?_) (fun h1 => ?_)))))
  · exact q_of q (by rw [decide_eq_false]; rintro rfl; exact h1 rfl)
  have hl : A.length = B.length := by omega
  refine ⟨ref10_Same_l1_m, saI M A B (.slice ad A.length cap) (.slice ad' B.length cap'), ⟨A.length, 0, rfl, Nat.zero_le _, by simp, rfl⟩, ?_⟩
  rintro k s ⟨i, rfl, hi, hs, rfl⟩
  refine ref10_Same_l1_wp (I := saI M A B (.slice ad A.length cap) (.slice ad' B.length cap')) ?_
  refine step_len (step_lss (wpIf.dec (fun h2 => ?_) (fun h2 => ?_)))
  · have hlt : i < A.length := by omega
    obtain ⟨a, ha⟩ : ∃ a, A[i]? = some a := ⟨_, List.getElem?_eq_getElem hlt⟩
    obtain ⟨b, hb⟩ : ∃ b, B[i]? = some b := ⟨_, List.getElem?_eq_getElem (by omega)⟩
    refine rd h (by omega) (by rw [Int.toNat_natCast]; exact ha) fun _ => ?_
    refine rd h' (by omega) (by rw [Int.toNat_natCast]; exact hb) fun _ => ?_
    refine step_neqCe (wpIf.dec (fun h3 => ?_) (fun h3 => ?_))
    · refine q_of q (b := false) (by rw [decide_eq_false]; rintro rfl; rw [ha] at hb; cases hb; exact h3 rfl)
    · have h4 : a = b := Decidable.not_not.1 h3
      exact step_add (by omega) (by omega) ⟨A.length - (i + 1), by omega, i + 1, rfl, by omega, by rw [List.take_add_one, List.take_add_one, ha, hb, hs, h4], rfl⟩
  · refine blockK.hit (ref10_Same_c0_wp (q_of q (b := true) ?_))
    rw [List.take_of_length_le (by omega), List.take_of_length_le (by omega)] at hs
    rw [decide_eq_true hs]
end
end Go.Proofs.Ytkelbhcaecojkaa.Run
