/- Erase, Fill, Copy. -/
import Derived.Test.YtklnbkacnghdnaaRc
namespace Go.Proofs.Ytklnbkacnghdnaa.Run
open Go Go.RowKit
set_option linter.unusedVariables false
set_option linter.unusedSimpArgs false
def clippedF (G : Gd) (a : Rc) : Rc := match G with
  | [] => ⟨0, 0, 0, 0⟩
  | L :: _ => clipF a G.length L.length
def Flush (G : Gd) (C : Nat) : Prop := ∀ L ∈ G, L.length = C
theorem clipped_within {G : Gd} {C : Nat} (hC : Flush G C) (a : Rc) : (clippedF G a).within G.length C := by
  unfold clippedF
  cases G with
  | nil => exact ⟨by simp, by simp, by simp, by simp, by simp, by simp⟩
  | cons L G =>
    have : L.length = C := hC L List.mem_cons_self
    simp only [this]
    exact clip_within (by omega) (by omega)
theorem rspan_le {f n m : Int} (hm : 0 ≤ m) : (rspanF f n m).2 - (rspanF f n m).1 ≤ max 0 n := by
  unfold rspanF
  repeat' split
  all_goals simp only
  all_goals omega
theorem clip_le {a : Rc} {R C : Int} (hR : 0 ≤ R) (hC : 0 ≤ C) : (clipF a R C).r ≤ max 0 a.r ∧ (clipF a R C).c ≤ max 0 a.c ∧ (0 < (clipF a R C).r ↔ 0 < (clipF a R C).c) := by
  have h1 := rspan_le (f := a.t) (n := a.r) hR
  have h2 := rspan_le (f := a.l) (n := a.c) hC
  unfold clipF
  split
  · exact ⟨by simp only; omega, by simp only; omega, by simp⟩
  · exact ⟨h1, h2, by simp only; omega⟩
theorem clipped_le {G : Gd} (a : Rc) : (clippedF G a).r ≤ max 0 a.r ∧ (clippedF G a).c ≤ max 0 a.c ∧ (0 < (clippedF G a).r ↔ 0 < (clippedF G a).c) := by
  unfold clippedF
  cases G with
  | nil => exact ⟨by simp only; omega, by simp only; omega, by simp⟩
  | cons L G => exact clip_le (by omega) (by omega)
def eraseG (G : Gd) (a : Rc) (c : Ce) : Gd := changedF G (clippedF G a).t (clippedF G a).r fun i => eraseF (G.getD i []) (clippedF G a).l ((clippedF G a).l + (clippedF G a).c) { c with kind := 0 }
def zeroR : Rc := ⟨0, 0, 0, 0⟩
def fillG (G : Gd) (a : Rc) (c : Ce) : Gd := eraseG G (if 97 ≤ c.rune ∧ c.rune ≤ 122 then a else zeroR) c
def fillOK (r : Int) : Prop := (97 ≤ r ∧ r ≤ 122) ∨ r = 0 ∨ r = 7 ∨ r = 20013 ∨ r = 769
def comesF (G : Gd) (f : Rc) (tr tc : Int) : Rc := if tr < 0 ∨ tc < 0 then zeroR else clippedF G ⟨tr, tc, f.r, f.c⟩
def copyRow (S L : List Ce) (f m : Rc) : List Ce :=
  (brk2 L m.l (m.l + m.c)).take m.l.toNat ++ ((breakF (brk2 S f.l (f.l + m.c)) (f.l + f.c)).take (f.l + m.c).toNat).drop f.l.toNat ++ (brk2 L m.l (m.l + m.c)).drop (m.l.toNat + m.c.toNat)
def copyG (G : Gd) (a : Rc) (tr tc : Int) : Gd := changedF G (comesF G (clippedF G a) tr tc).t (comesF G (clippedF G a) tr tc).r fun i => copyRow (G.getD ((clippedF G a).t + i - (comesF G (clippedF G a) tr tc).t).toNat []) (G.getD i []) (clippedF G a) (comesF G (clippedF G a) tr tc)
section
variable {M : Mem} {Q : Value → Mem → Prop}
theorem clipped_W (hM : M.base ≤ M.size) {v : Value} {G : Gd} (h : Gr M v G) (hl : ∀ L ∈ G, L.length ≤ 2 ^ 30) (hn : G.length ≤ 2 ^ 20) {a : Rc} (ha : a.ok) (q : ∀ M', Ext M M' → Q (clippedF G a).val M') : W funs known (.func (.func n_rect_clipped) #[] #[]) [v, a.val] M Q := by
  obtain ⟨ad, cap, rfl⟩ := h.shape
  refine rect_clipped_wp hM ⟨rfl, fun b1 M2 hb1 hM2 => ⟨rfl, fun b3 M4 hb3 hM4 => step_len ?_⟩⟩
  have e4 : Ext M M4 := (Ext.push' hM2).trans (Ext.push' hM4)
  have s2 : M2.size = M.size + 1 := by rw [hM2]; rfl
  have s4 : M4.size = M2.size + 1 := by rw [hM4]; rfl
  cases G with
  | nil => exact s_eqT rfl (wpIf.tt ⟨_, rfl, ⟨rfl, rfl, by decide⟩, fun M8 hM8 => LGetN.as (Rc.val ⟨0, 0, 0, 0⟩) (by decide) rfl (q _ (hM8 ▸ e4.set (by omega) (by omega) _))⟩)
  | cons L G =>
    have hL := hl L List.mem_cons_self
    refine s_eqF (by simp only [List.length_cons]; omega) (wpIf.ff (step_len (rdG (h.ext e4) (i := 0) (L := L) (by omega) rfl fun _ x sx => step_lenS sx ?_)))
    refine clip_W (e4.ok hM) ha ⟨by omega, by omega⟩ ⟨by omega, by omega⟩ fun M15 e15 => ⟨e15.keep _, ⟨rfl, rfl, by decide⟩, fun M16 hM16 => LGetN.as (clippedF (L :: G) a).val (by exact Nat.le_refl 4) rfl (q _ (hM16 ▸ (e4.trans e15).set (by omega) (by have := e15.size; omega) _))⟩
theorem erase1_W (hM : M.base ≤ M.size) {b1 b3 b5 : Nat} {t1 t3 t5 : TypeId} {v : Value} {a : Rc} {c : Ce} (g1 : M.get b1 = some (.cells [v] t1 true)) (g3 : M.get b3 = some (.cells (Enc.enc a) t3 true)) (g5 : M.get b5 = some (.cells (Enc.enc c) t5 true)) {G : Gd} (h : Gr M v G) {i : Nat} {L : List Ce} (hi : G[i]? = some L) (hL : L.length ≤ 2 ^ 30)
    (ha : 0 ≤ a.l ∧ 0 ≤ a.c ∧ a.l + a.c ≤ 2 ^ 40) (q : ∀ M' r, Ext M M' → New 50 M M' r (eraseF L a.l (a.l + a.c) c) → Q r M') : W funs known (.func (.func n_rect_Erase_1) #[] #[.pointer (some ⟨b1, 0, none⟩), .pointer (some ⟨b3, 0, none⟩), .pointer (some ⟨b5, 0, none⟩)]) [.int .i64 i] M Q := by
  refine rect_Erase_1_wp hM (pt_ld g1 rfl (rdG h (by omega) (by rw [Int.toNat_natCast]; exact hi) fun _ x sx => pt_f (pt_ld g3 rfl (pt_f (pt_ld g3 rfl (pt_f (pt_ld g3 rfl (step_add (by omega) (by omega) (pt_ldn g5 (by exact Nat.le_refl 14) rfl ?_)))))))))
  exact erase_W hM sx hL q
theorem erect_W (hM : M.base ≤ M.size) {v : Value} {G : Gd} {C : Nat} (h : Gr M v G) (hC : Flush G C) (hC2 : C ≤ 2 ^ 30) (hn : G.length ≤ 2 ^ 20) {a : Rc} (ha : a.ok) {c : Ce} (q : ∀ M' r, Ext M M' → GrN M M' r (eraseG G a c) → Q r M') : W funs known (.func (.func n_rect_Erase) #[] #[]) [v, a.val, c.val] M Q := by
  obtain ⟨ad, cap, rfl⟩ := h.shape
  have hl : ∀ L ∈ G, L.length ≤ 2 ^ 30 := fun L hL => by rw [hC L hL]; exact hC2
  refine rect_Erase_wp hM ⟨rfl, fun b1 M2 hb1 hM2 => ⟨rfl, fun b3 M4 hb3 hM4 => ⟨rfl, fun b5 M6 hb5 hM6 => ?_⟩⟩⟩
  have e2 : Ext M M2 := Ext.push' hM2
  have s2 : M2.size = M.size + 1 := by rw [hM2]; rfl
  have g2 : M2.get b1 = some (.cells [.slice ad G.length cap] 34 true) := by rw [hM2, hb1, Mem.get_push, if_pos rfl]
  have e4 : Ext M2 M4 := Ext.push' hM4
  have s4 : M4.size = M2.size + 1 := by rw [hM4]; rfl
  have e6 : Ext M4 M6 := Ext.push' hM6
  have s6 : M6.size = M4.size + 1 := by rw [hM6]; rfl
  have e06 := (e2.trans e4).trans e6
  refine clipped_W (e06.ok hM) (h.ext e06) hl hn ha fun M8 e8 => ⟨e8.keep _, ⟨rfl, rfl, by decide⟩, fun M9 hM9 => ⟨_, rfl, rfl, by decide, fun M10 hM10 => ?_⟩⟩
  have s8 := e8.size
  have w := clipped_within hC a
  generalize hA : clippedF G a = A at hM9 w ⊢
  have e08 := e06.trans e8
  have e9 : Ext M M9 := hM9 ▸ e08.set (by omega) (by omega) _
  have s9 : M9.size = M8.size := by rw [hM9]; rfl
  have e10 : Ext M M10 := hM10 ▸ e9.set (by omega) (by omega) _
  have k10 := e10.ok hM
  have g1 : M10.get b1 = some (.cells [.slice ad G.length cap] 34 true) := by
    rw [hM10, Mem.get_set _ _ _ (by omega), if_neg (by omega), hM9, Mem.get_set _ _ _ (by omega), if_neg (by omega)]
    exact ((e4.trans e6).trans e8).same g2
  have g3 : M10.get b3 = some (.cells (Enc.enc A) 26 true) := by
    rw [hM10, Mem.get_set _ _ _ (by omega), if_neg (by omega), hM9, Mem.get_set _ _ _ (by omega), if_pos rfl]; rfl
  have g5 : M10.get b5 = some (.cells (Enc.enc ({ c with kind := 0 } : Ce)) 50 true) := by
    rw [hM10, Mem.get_set _ _ _ (by omega), if_pos rfl]; rfl
  refine LGet.mk (v := .int .i64 A.t) rfl (LGet.mk (v := .int .i64 A.r) rfl ?_)
  refine changed_W k10 (h.ext e10) hl hn ⟨w.t, w.r, by have := w.b; omega⟩ (F := fun i => eraseF (G.getD i []) A.l (A.l + A.c) { c with kind := 0 }) (fun M' i Q' e hi h1 h2 q' => ?_) fun M15 r e15 n15 => ⟨e15.keep _, q M15 r (e10.trans e15) ?_⟩
  · obtain ⟨L, hL⟩ : ∃ L, G[i]? = some L := ⟨_, List.getElem?_eq_getElem hi⟩
    refine erase1_W (e.ok k10) (e.same g1) (e.same g3) (e.same g5) (h.ext (e10.trans e)) hL (hl L (List.mem_of_getElem? hL)) ⟨w.l, w.c, by have := w.e; omega⟩ fun M'' r e' n' => q' M'' r e' ?_
    have : G.getD i [] = L := by rw [List.getD_eq_getElem?_getD, hL]; rfl
    simp only [this]; exact n'
  · unfold eraseG; rw [hA]; exact n15.old e10
theorem letter_W {r : Int} (h : 97 ≤ r ∧ r ≤ 122) (q : Q (.int .i64 1) M) : W funs known (.func (.func n_width_Of) #[] #[]) [.int .i32 r] M Q := by
  have key : ∀ k ∈ List.range 26, tabL.find? (fun p => decide (p.1 = 97 + (k : Int))) = some (97 + (k : Int), 1) := by decide
  have h1 : tabL.find? (fun p => decide (p.1 = r)) = some (r, 1) := by
    have := key (r - 97).toNat (by rw [List.mem_range]; omega)
    rwa [show (97 : Int) + ((r - 97).toNat : Int) = r by omega] at this
  refine W_known ?_ q
  show (match tabL.find? (fun p => decide (p.1 = r)) with | some p => some (Value.int .i64 p.2) | none => none) = _
  rw [h1]
theorem other_Wd {r : Int} (h : r = 0 ∨ r = 7 ∨ r = 20013 ∨ r = 769) (q : ∀ w : Int, w ≠ 1 → Q (.int .i64 w) M) : W funs known (.func (.func n_width_Of) #[] #[]) [.int .i32 r] M Q := by
  rcases h with rfl | rfl | rfl | rfl
  · exact W_known (r := .int .i64 (-1)) rfl (q _ (by decide))
  · exact W_known (r := .int .i64 (-1)) rfl (q _ (by decide))
  · exact W_known (r := .int .i64 2) rfl (q _ (by decide))
  · exact W_known (r := .int .i64 0) rfl (q _ (by decide))
theorem fill_W (hM : M.base ≤ M.size) {v : Value} {G : Gd} {C : Nat} (h : Gr M v G) (hC : Flush G C) (hC2 : C ≤ 2 ^ 30) (hn : G.length ≤ 2 ^ 20) {a : Rc} (ha : a.ok) {c : Ce} (hr : fillOK c.rune) (q : ∀ M' r, Ext M M' → GrN M M' r (fillG G a c) → Q r M') : W funs known (.func (.func n_rect_Fill) #[] #[]) [v, a.val, c.val] M Q := by
  obtain ⟨ad, cap, rfl⟩ := h.shape
  refine rect_Fill_wp hM ⟨rfl, fun b1 M2 hb1 hM2 => ⟨rfl, fun b3 M4 hb3 hM4 => ?_⟩⟩
  have e2 : Ext M M2 := Ext.push' hM2
  have s2 : M2.size = M.size + 1 := by rw [hM2]; rfl
  have e4 : Ext M M4 := e2.trans (Ext.push' hM4)
  have s4 : M4.size = M2.size + 1 := by rw [hM4]; rfl
  rcases hr with hr | hr
  · refine letter_W hr ⟨KeepB.refl _ _, s_neF (fun h => h rfl) (wpIf.ff (erect_W (e4.ok hM) (h.ext e4) hC hC2 hn ha fun M14 r e14 n14 => ⟨e14.keep _, q M14 r (e4.trans e14) ?_⟩))⟩
    unfold fillG; rw [if_pos hr]; exact n14.old e4
  · refine other_Wd hr fun w hw => ⟨KeepB.refl _ _, s_neT hw (wpIf.tt ⟨_, rfl, ⟨rfl, rfl, by exact Nat.le_refl 4⟩, fun M9 hM9 => LGetN.as zeroR.val (by exact Nat.le_refl 4) rfl ?_⟩)⟩
    have e9 : Ext M M9 := hM9 ▸ e4.set (by omega) (by omega) _
    refine erect_W (e9.ok hM) (h.ext e9) hC hC2 hn (a := zeroR) ⟨⟨by decide, by decide⟩, ⟨by decide, by decide⟩, ⟨by decide, by decide⟩, ⟨by decide, by decide⟩⟩ fun M14 r e14 n14 => ⟨e14.keep _, q M14 r (e9.trans e14) ?_⟩
    unfold fillG; rw [if_neg (by omega)]; exact n14.old e9
theorem copy1_W (hM : M.base ≤ M.size) {b1 b3 b5 : Nat} {t1 t3 t5 : TypeId} {v : Value} {f m : Rc} (g1 : M.get b1 = some (.cells (Enc.enc f) t1 true)) (g3 : M.get b3 = some (.cells (Enc.enc m) t3 true)) (g5 : M.get b5 = some (.cells [v] t5 true)) {G : Gd} {C : Nat} (h : Gr M v G) (hC : Flush G C) (hC2 : C ≤ 2 ^ 30) (hn : G.length ≤ 2 ^ 20)
    (hf : f.within G.length C) (hm : m.within G.length C) (hfm : m.r ≤ f.r ∧ m.c ≤ f.c) (hmc : 0 < m.c) {i : Nat} (hi : i < G.length) (hi1 : m.t ≤ i ∧ (i : Int) < m.t + m.r)
    (q : ∀ M' r, Ext M M' → New 50 M M' r (copyRow (G.getD (f.t + i - m.t).toNat []) (G.getD i []) f m) → Q r M') : W funs known (.func (.func n_rect_Copy_1) #[] #[.pointer (some ⟨b1, 0, none⟩), .pointer (some ⟨b3, 0, none⟩), .pointer (some ⟨b5, 0, none⟩)]) [.int .i64 i] M Q := by
  obtain ⟨f1, f2, f3, f4, f5, f6⟩ := hf
  obtain ⟨m1, m2, m3, m4, m5, m6⟩ := hm
  obtain ⟨S, hS⟩ : ∃ S, G[(f.t + i - m.t).toNat]? = some S := ⟨_, List.getElem?_eq_getElem (by omega)⟩
  obtain ⟨L, hL⟩ : ∃ L, G[i]? = some L := ⟨_, List.getElem?_eq_getElem hi⟩
  have hSl : S.length = C := hC S (List.mem_of_getElem? hS)
  have hLl : L.length = C := hC L (List.mem_of_getElem? hL)
  have d1 : G.getD (f.t + i - m.t).toNat [] = S := by rw [List.getD_eq_getElem?_getD, hS]; rfl
  have d2 : G.getD i [] = L := by rw [List.getD_eq_getElem?_getD, hL]; rfl
  rw [d1, d2] at q
  refine rect_Copy_1_wp hM (pt_f (pt_ld g1 rfl (pt_f (pt_ld g3 rfl (step_add (by omega) (by omega) (pt_ld g5 rfl (pt_f (pt_ld g1 rfl (step_add (by omega) (by omega) (pt_f (pt_ld g3 rfl (step_sub (by omega) (by omega) ?_))))))))))))
  refine rdG h (by omega) hS fun _ xs ss => pt_f (pt_ld g1 rfl (pt_f (pt_ld g1 rfl (pt_f (pt_ld g1 rfl (step_add (by omega) (by omega) ?_))))))
  refine step_lit [(⟨f.l⟩ : In), ⟨f.l + m.c⟩, ⟨f.l + f.c⟩] rfl rfl fun v22 M23 e23 n23 => ?_
  have t23 := Ext.thaw e23
  have n23' : New 3 M (M23.thaw M.base) v22 [(⟨f.l⟩ : In), ⟨f.l + m.c⟩, ⟨f.l + f.c⟩] := n23
  generalize M23.thaw M.base = R1 at t23 n23' ⊢
  refine break_W (t23.ok hM) (ss.ext t23) n23'.sl (by omega) (by simp) fun M25 r24 e25 n25 => ?_
  have n25' : New 50 R1 M25 r24 (breakF (brk2 S f.l (f.l + m.c)) (f.l + f.c)) := n25
  have e025 := t23.trans e25
  have k25 := e025.ok hM
  have g1' := e025.same g1
  have g3' := e025.same g3
  refine pt_ld (e025.same g5) rfl (rdG (h.ext e025) (by omega) (by rw [Int.toNat_natCast]; exact hL) fun _ xl sl => pt_f (pt_ld g3' rfl (pt_f (pt_ld g3' rfl (pt_f (pt_ld g3' rfl (step_add (by omega) (by omega) ?_)))))))
  refine step_lit [(⟨m.l⟩ : In), ⟨m.l + m.c⟩] rfl rfl fun v36 M37 e37 n37 => ?_
  have t37 := Ext.thaw e37
  have n37' : New 3 M25 (M37.thaw M25.base) v36 [(⟨m.l⟩ : In), ⟨m.l + m.c⟩] := n37
  generalize M37.thaw M25.base = R2 at t37 n37' ⊢
  refine break_W (t37.ok k25) (sl.ext t37) n37'.sl (by omega) (by simp) fun M39 r38 e39 n39 => ?_
  have n39' : New 50 R2 M39 r38 (brk2 L m.l (m.l + m.c)) := n39
  have e2539 := t37.trans e39
  have e039 := e025.trans e2539
  have g1'' := e2539.same g1'
  have g3'' := e2539.same g3'
  have s24 := n25'.sl.ext e2539
  have hBl : (brk2 L m.l (m.l + m.c)).length = C := by rw [brk2_len, hLl]
  have hSl2 : (breakF (brk2 S f.l (f.l + m.c)) (f.l + f.c)).length = C := by rw [breakF_len, brk2_len, hSl]
  have n39M : New 50 M M39 r38 (brk2 L m.l (m.l + m.c)) := New.old (e025.trans t37) n39'
  obtain ⟨d, hd, hcp⟩ := copyN e039 hM n39M (x := m.l) m2 (by rw [hBl]; omega) (j := .i64)
  refine pt_f (pt_ld g3'' rfl ⟨d, hd, pt_f (pt_ld g1'' rfl ?_)⟩)
  refine step_mid s24 (by omega) (by omega) (by rw [hSl2]; omega) fun v45 s45 => ?_
  have hlen : (((breakF (brk2 S f.l (f.l + m.c)) (f.l + f.c)).take (f.l + m.c).toNat).drop f.l.toNat).length = m.c.toNat := by
    rw [List.length_drop, List.length_take, hSl2]; omega
  obtain ⟨u, M47, hu, e47, n47⟩ := hcp v45 _ s45 (by rw [hlen, hBl]; omega)
  refine ⟨u, M47, hu, q M47 r38 e47 ?_⟩
  rw [hlen] at n47
  exact n47
theorem zeroR_within (R C : Nat) : zeroR.within R C := ⟨by decide, by decide, by decide, by decide, by show (0 : Int) + 0 ≤ R; omega, by show (0 : Int) + 0 ≤ C; omega⟩
theorem comes_ok {G : Gd} {C : Nat} (hC : Flush G C) (f : Rc) (hf : 0 ≤ f.r ∧ 0 ≤ f.c) (tr tc : Int) : (comesF G f tr tc).within G.length C ∧ (comesF G f tr tc).r ≤ f.r ∧ (comesF G f tr tc).c ≤ f.c ∧ (0 < (comesF G f tr tc).r ↔ 0 < (comesF G f tr tc).c) := by
  unfold comesF
  split
  · exact ⟨zeroR_within _ _, hf.1, hf.2, by simp [zeroR]⟩
  · have h1 := clipped_le (G := G) ⟨tr, tc, f.r, f.c⟩
    simp only at h1
    exact ⟨clipped_within hC _, by omega, by omega, h1.2.2⟩
theorem rcopy_W (hM : M.base ≤ M.size) {v : Value} {G : Gd} {C : Nat} (h : Gr M v G) (hC : Flush G C) (hC2 : C ≤ 2 ^ 30) (hn : G.length ≤ 2 ^ 20) {a : Rc} (ha : a.ok) {tr tc : Int} (h1 : I64 tr) (h2 : I64 tc) (q : ∀ M' r, Ext M M' → GrN M M' r (copyG G a tr tc) → Q r M') : W funs known (.func (.func n_rect_Copy) #[] #[]) [v, a.val, .agg #[.int .i64 tr, .int .i64 tc]] M Q := by
  obtain ⟨ad, cap, rfl⟩ := h.shape
  have hl : ∀ L ∈ G, L.length ≤ 2 ^ 30 := fun L hL => by rw [hC L hL]; exact hC2
  refine rect_Copy_wp hM ⟨rfl, fun b1 M2 hb1 hM2 => ⟨rfl, fun b3 M4 hb3 hM4 => ⟨rfl, fun b5 M6 hb5 hM6 => ?_⟩⟩⟩
  have e2 : Ext M M2 := Ext.push' hM2
  have s2 : M2.size = M.size + 1 := by rw [hM2]; rfl
  have g2 : M2.get b1 = some (.cells [.slice ad G.length cap] 34 true) := by rw [hM2, hb1, Mem.get_push, if_pos rfl]
  have e4 : Ext M2 M4 := Ext.push' hM4
  have s4 : M4.size = M2.size + 1 := by rw [hM4]; rfl
  have e6 : Ext M4 M6 := Ext.push' hM6
  have s6 : M6.size = M4.size + 1 := by rw [hM6]; rfl
  have e06 := (e2.trans e4).trans e6
  refine clipped_W (e06.ok hM) (h.ext e06) hl hn ha fun M8 e8 => ⟨e8.keep _, ⟨rfl, rfl, by decide⟩, fun M9 hM9 => ?_⟩
  have s8 := e8.size
  have w := clipped_within hC a
  have hq : ∀ M' r, Ext M M' → GrN M M' r (changedF G (comesF G (clippedF G a) tr tc).t (comesF G (clippedF G a) tr tc).r fun i => copyRow (G.getD ((clippedF G a).t + i - (comesF G (clippedF G a) tr tc).t).toNat []) (G.getD i []) (clippedF G a) (comesF G (clippedF G a) tr tc)) → Q r M' := q
  clear q
  generalize clippedF G a = f at hM9 w hq ⊢
  have hcm := comes_ok hC f ⟨w.r, w.c⟩ tr tc
  have w' := id w
  obtain ⟨w1, w2, w3, w4, w5, w6⟩ := w'
  have e08 := e06.trans e8
  have e9 : Ext M M9 := hM9 ▸ e08.set (by omega) (by omega) _
  have s9 : M9.size = M8.size := by rw [hM9]; rfl
  have k9 := e9.ok hM
  have g19 : M9.get b1 = some (.cells [.slice ad G.length cap] 34 true) := by
    rw [hM9, Mem.get_set _ _ _ (by omega), if_neg (by omega)]
    exact ((e4.trans e6).trans e8).same g2
  have g39 : M9.get b3 = some (.cells (Enc.enc f) 26 true) := by
    rw [hM9, Mem.get_set _ _ _ (by omega), if_pos rfl]; rfl
  refine LGet.mk (v := .int .i64 f.r) rfl (LGet.mk (v := .int .i64 f.c) rfl ⟨Rc.val ⟨tr, tc, f.r, f.c⟩, rfl, ?_⟩)
  have fok : (⟨tr, tc, f.r, f.c⟩ : Rc).ok := ⟨h1, h2, ⟨by show -9223372036854775808 ≤ f.r; omega, by show f.r ≤ 9223372036854775807; omega⟩, ⟨by show -9223372036854775808 ≤ f.c; omega, by show f.c ≤ 9223372036854775807; omega⟩⟩
  refine clipped_W k9 (h.ext e9) hl hn fok fun M14 e14 => ⟨e14.keep _, rfl, fun b15 M16 hb15 hM16 => ⟨⟨rfl, rfl, by decide⟩, fun M17 hM17 => ?_⟩⟩
  have s14 := e14.size
  have e16 : Ext M9 M16 := e14.trans (Ext.push' hM16)
  have s16 : M16.size = M14.size + 1 := by rw [hM16]; rfl
  have e17 : Ext M9 M17 := hM17 ▸ e16.set (by omega) (by omega) _
  have s17 : M17.size = M16.size := by rw [hM17]; rfl
  have fin : ∀ {N : Mem} {m : Rc}, Ext M9 N → N.get b15 = some (.cells (Enc.enc m) 26 true) → comesF G f tr tc = m → W funs known (.func (.func n_rect_changed) #[] #[]) [.slice ad G.length cap, .int .i64 m.t, .int .i64 m.r, .func (.func n_rect_Copy_1) #[] #[.pointer (some ⟨b3, 0, none⟩), .pointer (some ⟨b15, 0, none⟩), .pointer (some ⟨b1, 0, none⟩)]] N (fun r M' => KeepB [b1, b3, b5, b15] N M' ∧ Q r M') := by
    intro N m eN gN hm
    rw [hm] at hcm hq
    obtain ⟨m1, m2, m3, m4, m5, m6⟩ := id hcm.1
    have kN := eN.ok k9
    refine changed_W kN (h.ext (e9.trans eN)) hl hn ⟨m1, m3, by omega⟩ (F := fun i => copyRow (G.getD (f.t + i - m.t).toNat []) (G.getD i []) f m) (fun M' i Q' e hi i1 i2 q' => ?_) fun M15 r e15 n15 => ⟨e15.keep _, hq M15 r ((e9.trans eN).trans e15) (n15.old (e9.trans eN))⟩
    exact copy1_W (e.ok kN) ((eN.trans e).same g39) (e.same gN) ((eN.trans e).same g19) (h.ext ((e9.trans eN).trans e)) hC hC2 hn w hcm.1 ⟨hcm.2.1, hcm.2.2.1⟩ (hcm.2.2.2.1 (by omega)) hi ⟨i1, i2⟩ q'
  refine step_lss (wpIf.dec (fun c1 => ?_) (fun c1 => step_lss (wpIf.dec (fun c2 => ?_) (fun c2 => ?_))))
  · refine ⟨_, rfl, ⟨rfl, rfl, by exact Nat.le_refl 4⟩, fun M20 hM20 => LGet.mk (v := .int .i64 0) rfl (LGet.mk (v := .int .i64 0) rfl (fin (m := zeroR) (hM20 ▸ e17.set (by omega) (by omega) _) ?_ ?_))⟩
    · rw [hM20, Mem.get_set _ _ _ (by omega), if_pos rfl]; rfl
    · unfold comesF; rw [if_pos (.inl c1)]
  · refine ⟨_, rfl, ⟨rfl, rfl, by exact Nat.le_refl 4⟩, fun M20 hM20 => LGet.mk (v := .int .i64 0) rfl (LGet.mk (v := .int .i64 0) rfl (fin (m := zeroR) (hM20 ▸ e17.set (by omega) (by omega) _) ?_ ?_))⟩
    · rw [hM20, Mem.get_set _ _ _ (by omega), if_pos rfl]; rfl
    · unfold comesF; rw [if_pos (.inr c2)]
  · refine LGet.mk (v := .int .i64 (clippedF G ⟨tr, tc, f.r, f.c⟩).t) rfl (LGet.mk (v := .int .i64 (clippedF G ⟨tr, tc, f.r, f.c⟩).r) rfl (fin e17 ?_ ?_))
    · rw [hM17, Mem.get_set _ _ _ (by omega), if_pos rfl]; rfl
    · unfold comesF; rw [if_neg (by omega)]
end
end Go.Proofs.Ytklnbkacnghdnaa.Run
