/- The law GridRows, over this session's interpreter. -/
import Derived.Test.YtifemfnjoobiiaaGridP
import Derived.Test.YtifemfnjoobiiaaVcLR
namespace Go.Proofs.Ytifemfnjoobiiaa.Run
open Go Go.RowKit
set_option linter.unusedVariables false
set_option linter.unusedSimpArgs false
set_option maxRecDepth 100000
theorem get3 {α : Type} (A B D : List α) (i : Nat) : (A ++ B ++ D)[i]? = if i < A.length then A[i]? else if i < A.length + B.length then B[i - A.length]? else D[i - (A.length + B.length)]? := by
 rw [List.getElem?_append]
 split
 ·rename_i h
  rw [List.getElem?_append]
  split
  ·rfl
  ·rename_i h2
   rw [List.length_append] at h
   rw [if_pos h]
 ·rename_i h
  rw [List.length_append] at h
  rw [if_neg (by omega), if_neg (by omega), List.length_append]
theorem modG_get {G : Gd} {r : Nat} {f : List Ce → List Ce} {i : Nat} (h : i ≠ r) : (modG G r f)[i]? = G[i]? := by
 unfold modG
 split
 ·exact List.getElem?_set_ne (by omega)
 ·rfl
theorem atG_get {G : Gd} {C : Nat} {r c : Int} {f : List Ce → List Ce} {i : Nat} (h : (i : Int) ≠ r) : (atG G C r c f)[i]? = G[i]? := by
 unfold atG
 split
 ·exact modG_get (by omega)
 ·rfl
theorem actG_get {G : Gd} {C : Nat} {a : Ac} {i : Nat} (h : (i : Int) ≠ a.r) : (actG G C a)[i]? = G[i]? := by
 unfold actG putG markG insertG deleteG eraseG
 repeat' split
 all_goals first | exact atG_get h | exact modG_get (by omega) | rfl
theorem up_get {G : Gd} {C : Nat} {T B : Nat} (hT : T ≤ B) (hB : B < G.length) {k : Int} (hk : 0 ≤ k) {z : Ce} {m : Nat} (hm : (m : Int) = min k ((B : Int) - T + 1)) :
  (∀ i, i < G.length → (scrollG true G C T B k z).1[i]? = if i < T ∨ i > B then G[i]? else if i + m ≤ B then G[i + m]? else some (List.replicate C z)) ∧ (scrollG true G C T B k z).2.length = m := by
 by_cases h0 : k < 1
 ·have hm0 : m = 0 := by omega
  subst hm0
  have hs : scrollG true G C T B k z = (G, []) := by unfold scrollG; rw [if_neg (by omega)]
  rw [hs]
  refine ⟨fun i hi => ?_, rfl⟩
  split
  ·rfl
  ·rw [if_pos (by omega)]; rfl
 have hR : ((G.take (B + 1)).drop T).length = B + 1 - T := by simp; omega
 have hmm : min k.toNat ((G.take (B + 1)).drop T).length = m := by rw [hR]; omega
 have hs : scrollG true G C T B k z = (G.take T ++ (((G.take (B + 1)).drop T).drop m ++ List.replicate m (List.replicate C z)) ++ G.drop (B + 1), ((G.take (B + 1)).drop T).take m) := by
  unfold scrollG
  rw [if_pos ⟨by omega, by omega, by omega, by omega, by omega, by omega⟩]
  simp only [Int.toNat_natCast, if_true, hmm]
 rw [hs]
 refine ⟨fun i hi => ?_, by simp only [List.length_take, hR]; omega⟩
 have lT : (G.take T).length = T := by simp; omega
 have lM : (((G.take (B + 1)).drop T).drop m ++ List.replicate m (List.replicate C z)).length = B + 1 - T := by rw [List.length_append, List.length_drop, hR, List.length_replicate]; omega
 simp only
 rw [get3, lT, lM]
 by_cases h1 : i < T
 ·rw [if_pos h1, if_pos (.inl h1), List.getElem?_take, if_pos h1]
 rw [if_neg h1]
 by_cases h2 : i > B
 ·rw [if_neg (by omega), if_pos (.inr h2), List.getElem?_drop]; congr 1; omega
 rw [if_pos (by omega), if_neg (by omega), List.getElem?_append, List.length_drop, hR]
 by_cases h3 : i + m ≤ B
 ·rw [if_pos (by omega), if_pos h3, List.getElem?_drop, List.getElem?_drop, List.getElem?_take, if_pos (by omega)]; congr 1; omega
 ·rw [if_neg (by omega), if_neg h3, List.getElem?_replicate, if_pos (by omega)]
theorem down_get {G : Gd} {C : Nat} {T B : Nat} (hT : T ≤ B) (hB : B < G.length) {z : Ce} {m : Nat} (hm : (m : Int) ≤ (B : Int) - T + 1) :
  (∀ i, i < G.length → (scrollG false G C T B m z).1[i]? = if i < T ∨ i > B then G[i]? else if i < T + m then some (List.replicate C z) else G[i - m]?) ∧ (scrollG false G C T B m z).2.length = m := by
 by_cases h0 : m = 0
 ·subst h0
  have hs : scrollG false G C T B (0 : Nat) z = (G, []) := by unfold scrollG; rw [if_neg (by omega)]
  rw [hs]
  refine ⟨fun i hi => ?_, rfl⟩
  split
  ·rfl
  ·rw [if_neg (by omega)]; rfl
 have hR : ((G.take (B + 1)).drop T).length = B + 1 - T := by simp; omega
 have hmm : min (m : Int).toNat ((G.take (B + 1)).drop T).length = m := by rw [hR]; omega
 have hs : scrollG false G C T B m z = (G.take T ++ (List.replicate m (List.replicate C z) ++ ((G.take (B + 1)).drop T).take (B + 1 - T - m)) ++ G.drop (B + 1), ((G.take (B + 1)).drop T).drop (B + 1 - T - m)) := by
  unfold scrollG
  rw [if_pos ⟨by omega, by omega, by omega, by omega, by omega, by omega⟩]
  simp only [Int.toNat_natCast, Bool.false_eq_true, if_false]
  have hmm' : min m (B + 1 - T) = m := by omega
  simp only [hR, hmm']
 rw [hs]
 refine ⟨fun i hi => ?_, by simp only [List.length_drop, hR]; omega⟩
 have lT : (G.take T).length = T := by simp; omega
 have lM : (List.replicate m (List.replicate C z) ++ ((G.take (B + 1)).drop T).take (B + 1 - T - m)).length = B + 1 - T := by rw [List.length_append, List.length_take, hR, List.length_replicate]; omega
 simp only
 rw [get3, lT, lM]
 by_cases h1 : i < T
 ·rw [if_pos h1, if_pos (.inl h1), List.getElem?_take, if_pos h1]
 rw [if_neg h1]
 by_cases h2 : i > B
 ·rw [if_neg (by omega), if_pos (.inr h2), List.getElem?_drop]; congr 1; omega
 rw [if_pos (by omega), if_neg (by omega), List.getElem?_append, List.length_replicate]
 by_cases h3 : i < T + m
 ·rw [if_pos (by omega), if_pos h3, List.getElem?_replicate, if_pos (by omega)]
 ·rw [if_neg (by omega), if_neg h3, List.getElem?_take, if_pos (by omega), List.getElem?_drop, List.getElem?_take, if_pos (by omega)]; congr 1; omega
theorem Gp.sized {M₀ M₁ M : Mem} {b rb C : Nat} {G : Gd} (hs : M₁.size = M₀.size) (h : Gp M₀ M b rb C G) : Gp M₁ M b rb C G := by
 obtain ⟨P, sp, cap, rest, h1, h2⟩ := h
 refine ⟨P, sp, cap, rest, { h1 with hb := by have := h1.hb; omega, hr := by have := h1.hr; omega, rows := fun p hp => ?_ }, h2⟩
 obtain ⟨b, sp, e, g, hlt⟩ := h1.rows p hp
 exact ⟨b, sp, e, g, by omega⟩
section
variable {M : Mem} {Q : Value → Mem → Prop}
abbrev gr2 (Ma : Mem) (s : Sp) (n : Nat) (was now dv : Value) (c r co : Int) (b1 b3 b5 : Nat) : Nat → LS → Prop := fun k st => ∃ (i : Nat), st = law11_GridRows_l2_s was now (.int .i64 i) b1 (.int .u8 c) dv b3 (.int .u8 s.what) (.int .u8 s.row) (.int .u8 s.col) (.int .u8 s.n) (.int .u8 s.m) (.int .u8 s.cell.rune) (.int .u8 s.cell.marks) (.int .u8 s.cell.attr) (.bool s.cell.wide) (.bool s.cell.high) (.bool s.odd) b5 [.int .i64 r, .int .i64 co] [] Ma ∧ i ≤ n ∧ k = n - i
abbrev gr4 (Ma : Mem) (s : Sp) (n C : Nat) (gp was now dv : Value) (c t b k0 : Int) (b1 b3 : Nat) : Nat → LS → Prop := fun k st => ∃ (i : Nat) (N : Mem), st = law11_GridRows_l4_s gp was (.int .i64 n) (.int .i64 C) (.int .i64 t) (.int .i64 b) (.int .i64 k0) now (.int .i64 i) b1 (.int .u8 c) dv b3 (.int .u8 s.what) (.int .u8 s.row) (.int .u8 s.col) (.int .u8 s.n) (.int .u8 s.m) (.int .u8 s.cell.rune) (.int .u8 s.cell.marks) (.int .u8 s.cell.attr) (.bool s.cell.wide) (.bool s.cell.high) (.bool s.odd) [] N ∧ Ext Ma N ∧ i ≤ n ∧ k = n - i
abbrev gr6 (Ma : Mem) (s : Sp) (n C : Nat) (was now back dv : Value) (c t b k0 : Int) (b1 b3 : Nat) : Nat → LS → Prop := fun k st => ∃ (i : Nat) (N : Mem), st = law11_GridRows_l6_s was (.int .i64 n) (.int .i64 C) (.int .i64 t) (.int .i64 b) (.int .i64 k0) now back (.int .i64 i) b1 (.int .u8 c) dv b3 (.int .u8 s.what) (.int .u8 s.row) (.int .u8 s.col) (.int .u8 s.n) (.int .u8 s.m) (.int .u8 s.cell.rune) (.int .u8 s.cell.marks) (.int .u8 s.cell.attr) (.bool s.cell.wide) (.bool s.cell.high) (.bool s.odd) [] N ∧ Ext Ma N ∧ i ≤ n ∧ k = n - i
theorem sameRow {N : Mem} {A B : Gd} {v w : Value} (hN : N.base ≤ N.size) (hA : Gr N v A) (hB : Gr N w B) {i j : Nat} {L : List Ce} (h1 : A[i]? = some L) (h2 : B[j]? = some L) (hL : L.length ≤ 512) {Rr : Value → Value → Value → Value → Value → Mem → Prop} {y1 y2 : IntKind}
  (q : ∀ a x a' x', Rr a x a' x' (.bool true) N) : ∃ a, opSem (.addrL 1 (.const v) (.const (.int y1 (i : Int)))) [] N = some (a, N) ∧ ∃ x, opSem (.load none (.const a)) [] N = some (x, N) ∧ ∃ a', opSem (.addrL 1 (.const w) (.const (.int y2 (j : Int)))) [] N = some (a', N) ∧ ∃ x', opSem (.load none (.const a')) [] N = some (x', N) ∧ W funs known (.func (.func n_ref10_Same) #[] #[]) [x, x'] N (Rr a x a' x') := by
 refine rdG hA (by omega) (by rw [Int.toNat_natCast]; exact h1) fun _ x sx => rdG hB (by omega) (by rw [Int.toNat_natCast]; exact h2) fun _ x' sx' => same_W hN sx sx' (by omega) ?_
 rw [decide_eq_true rfl]; exact q _ _ _ _
theorem sameRow' {N : Mem} {A B : Gd} {v w : Value} (hN : N.base ≤ N.size) (hA : Gr N v A) (hB : Gr N w B) {i j : Nat} {L : List Ce} (h1 : A[i]? = some L) (h2 : B[j]? = some L) (hL : L.length ≤ 512) {Rr : Value → Value → Value → Value → Value → Mem → Prop} {y1 y2 : IntKind}
  (q : ∀ a x a' x', Rr a x a' x' (.bool true) N) : ∃ a, opSem (.addrL 1 (.const w) (.const (.int y1 (j : Int)))) [] N = some (a, N) ∧ ∃ x, opSem (.load none (.const a)) [] N = some (x, N) ∧ ∃ a', opSem (.addrL 1 (.const v) (.const (.int y2 (i : Int)))) [] N = some (a', N) ∧ ∃ x', opSem (.load none (.const a')) [] N = some (x', N) ∧ W funs known (.func (.func n_ref10_Same) #[] #[]) [x', x] N (Rr a x a' x') := by
 refine rdG hB (by omega) (by rw [Int.toNat_natCast]; exact h2) fun _ x sx => rdG hA (by omega) (by rw [Int.toNat_natCast]; exact h1) fun _ x' sx' => same_W hN sx' sx (by omega) ?_
 rw [decide_eq_true rfl]; exact q _ _ _ _
set_option maxHeartbeats 4000000 in
theorem grows_W (hM : M.base ≤ M.size) {c : Int} (hc : 0 ≤ c ∧ c ≤ 255) {dv : Value} {T : Lns} (h : Sl M dv T.row) (hok : LnsOK M T) {s : Sp} (ok : s.ok) (q : ∀ M', Q (.bool true) M') :
  W funs known (.func (.func n_law11_GridRows) #[] #[]) [.agg #[.int .u8 c, dv], s.val] M Q := by
 obtain ⟨da, dcap, hdv⟩ := h.shape
 rw [hdv]
 refine law11_GridRows_wp hM ?_
 rw [← hdv]
 refine ⟨rfl, fun b1 M2 hb1 hM2 => ⟨rfl, fun b3 M4 hb3 hM4 => W_known (r := .bool true) rfl ⟨KeepB.refl _ _, _, rfl, wpIf.ff ?_⟩⟩⟩
 have e2 : Ext M M2 := Ext.push' hM2
 have s2 : M2.size = M.size + 1 := by rw [hM2]; rfl
 have e4 : Ext M M4 := e2.trans (Ext.push' hM4)
 have s4 : M4.size = M2.size + 1 := by rw [hM4]; rfl
 refine draftG_W (e4.ok hM) hc (.inl (h.ext e4)) (hok.ext e4) fun M7 gv e7 n7 => ⟨e7.keep _, ?_⟩
 have e07 := e4.trans e7
 have k7 := e07.ok hM
 obtain ⟨_, hC1, hC2⟩ := colsD_in c hc
 have hrows := gridD_rows c T
 have hb1 : b1 < M7.size ∧ b3 < M7.size := by have := e7.size; omega
 have hGC := gridD_cols hc T
 generalize gridD c T = G at n7 hrows hGC
 generalize colsD c = C at hC1 hC2 hGC
 have kb : ∀ {A B : Mem}, Ext M7 A → Ext M7 B → KeepB [b1, b3] A B := fun eA eB => keepEs (fun y hy => by
  simp only [List.mem_cons, List.not_mem_nil, or_false] at hy
  rcases hy with rfl | rfl <;> omega) eA eB
 refine of_W k7 n7.gr hGC hC1 (by omega) hrows.1 (by omega) fun M9 b rb e9 g9 => ⟨e9.keep _, rows_W e9 k7 g9 fun M11 was e11 n11 => ⟨e11.keep _, ?_⟩⟩
 have e711 := e9.trans e11
 have k11 := e711.ok k7
 have g11 := g9.ext e11
 obtain ⟨_, _, _, n1, n2, hbm, hrm, hbl, hrl, hne⟩ := g9.facts
 refine size_W k11 g11 ⟨KeepB.refl _ _, _, rfl, _, rfl, step_rem8 (by decide) ok.what.1 (step_lss (wpIf.dec (fun w6 => ?_) (fun w6 => ?_)))⟩
 ·-- something is done to a place
  have hw := ok.what
  refine does_W e711 k7 g11 ok fun M21 v rb' t21 hrb' w21 => ⟨t21.keep fun y hy => by
   simp only [List.mem_cons, List.not_mem_nil, or_false] at hy
   omega, ?_⟩
  have e21 : Ext M7 M21 := t21.ext e711 hbm hrm
  have k21 := e21.ok k7
  have g21 := w21.gp
  have hd : doesF s G C = (actG G C (actF s G.length C), C, []) := by
   unfold doesF
   rw [if_neg (by omega), if_neg (by omega), if_neg (by omega)]
  rw [hd] at g21
  have g21 : Gp M7 M21 b rb' C (actG G C (actF s G.length C)) := g21
  refine act_W k21 ok (R := G.length) (C := C) ⟨by omega, by omega⟩ ⟨by omega, by omega⟩ fun M23 e23 => ⟨e23.keep _, posV (actF s G.length C).r (actF s G.length C).c, rfl, rfl, fun b25 M26 hb25 hM26 => ⟨⟨rfl, rfl, by decide⟩, fun M27 hM27 => ?_⟩⟩
  have e26 : Ext M23 M26 := Ext.push' hM26
  have s26 : M26.size = M23.size + 1 := by rw [hM26]; rfl
  have e2127 : Ext M21 M27 := hM27 ▸ (e23.trans e26).set (by have := e23.size; omega) (by omega) _
  have e27 := e21.trans e2127
  generalize actF s G.length C = a at g21 hM27 ⊢
  refine rows_W e27 k7 (g21.ext e2127) fun M29 now e29 n29 => ⟨e29.keep _, ?_⟩
  have k29 := (e27.trans e29).ok k7
  have was29 : Gr M29 was G := (((n11.young t21 fun x hx => by rcases hx with rfl | rfl <;> omega).ext e2127).ext e29).gr
  have now29 := n29.gr
  have hal : (actG G C a).length = G.length := actG_len _ _ _
  obtain ⟨hG21, _⟩ := g21.facts
  refine ⟨law11_GridRows_l2_m, gr2 M29 s G.length was now dv c a.r a.c b1 b3 b25, ⟨G.length, 0, rfl, Nat.zero_le _, rfl⟩, ?_⟩
  rintro k st ⟨i, rfl, hi, rfl⟩
  refine law11_GridRows_l2_wp (I := gr2 M29 s G.length was now dv c a.r a.c b1 b3 b25) (step_lenG now29 ?_)
  rw [hal]
  refine step_lss (wpIf.dec (fun g1 => LGet.mk (v := .int .i64 a.r) rfl (step_neq (wpIf.dec (fun g2 => ?_) (fun g2 => ?_)))) (fun g1 => ?_))
  ·obtain ⟨L, hL⟩ : ∃ L, G[i]? = some L := ⟨_, List.getElem?_eq_getElem (by omega)⟩
   refine sameRow k29 now29 was29 (by rw [actG_get g2]; exact hL) hL (by rw [hGC L (List.mem_of_getElem? hL)]; omega) ?_
   exact fun _ _ _ _ => ⟨KeepB.refl _ _, _, rfl, wpIf.ff (step_add (by omega) (by omega) ⟨G.length - (i + 1), by omega, i + 1, rfl, by omega, rfl⟩)⟩
  ·exact step_add (by omega) (by omega) ⟨G.length - (i + 1), by omega, i + 1, rfl, by omega, rfl⟩
  ·refine blockK.hit (law11_GridRows_c1_wp (step_lenG now29 (step_lenG was29 ?_)))
   rw [hal]
   exact step_eql (q_of (q _) (decide_eq_true rfl).symm)
 refine law11_GridRows_c0_wp ⟨.bool false, rfl, rfl, by decide, fun M1 hM1 => ?_⟩
 have hlt3 : b3 < M11.size := by have := e711.size; omega
 have t1 : Touch (fun x => x = b3) M11 M1 := by subst hM1; exact Touch.set (p := fun x => x = b3) (Touch.refl _ M11) rfl hlt3 _
 have gb3 : ∃ y, M11.get b3 = some (.cells y 62 true) := ⟨_, (e7.trans e711).same (by rw [hM4, Mem.get_push, if_pos hb3])⟩
 have kinds3 : ∀ x, x = b3 → ∀ y w, M11.get x ≠ some (.cells y 42 w) := fun x hx y w hy => by
  obtain ⟨z, hz⟩ := gb3
  rw [hx, hz] at hy
  exact absurd (AObj.cells.inj (Option.some.inj hy)).2.1 (by decide)
 have g1 : Gp M7 M1 b rb C G := g11.touch t1 (by omega) (by omega) kinds3
 have was1 : GrN M9 M1 was G := n11.young t1 fun x hx => by rw [hx]; have := e9.size; omega
 obtain ⟨P7, hP7⟩ : ∃ P7, P7 = M7.set b3 (.cells [.int .u8 s.what, .int .u8 s.row, .int .u8 s.col, .int .u8 s.n, .int .u8 s.m, .int .u8 s.cell.rune, .int .u8 s.cell.marks, .int .u8 s.cell.attr, .bool s.cell.wide, .bool s.cell.high, .bool false] 62 true) := ⟨_, rfl⟩
 have eP : Ext P7 M1 := by rw [hP7, hM1]; exact e711.both hb1.2 _
 have kP : P7.base ≤ P7.size := by rw [hP7]; exact k7
 have szP : P7.size = M7.size := by rw [hP7]; rfl
 have gP : ∀ {N : Mem} {rb' C' : Nat} {G' : Gd}, Gp M7 N b rb' C' G' → Gp P7 N b rb' C' G' := fun h => h.sized szP
 have kbP : ∀ {A B : Mem}, Ext P7 A → Ext P7 B → KeepB [b1, b3] A B := fun eA eB => keepEs (fun y hy => by
  simp only [List.mem_cons, List.not_mem_nil, or_false] at hy
  rcases hy with rfl | rfl <;> omega) eA eB
 have k1 := eP.ok kP
 have ok0 : Sp.ok { s with odd := false } := ⟨ok.what, ok.row, ok.col, ok.n, ok.m, ok.cell⟩
 have r1 := Int.emod_nonneg s.row (show (G.length : Int) ≠ 0 by omega)
 have r2 := Int.emod_lt_of_pos s.row (show (0 : Int) < G.length by omega)
 have r3 := Int.emod_nonneg s.m (show (G.length : Int) - s.row % G.length ≠ 0 by omega)
 have r4 := Int.emod_lt_of_pos s.m (show 0 < (G.length : Int) - s.row % G.length by omega)
 obtain ⟨T0, hT0⟩ : ∃ T0 : Nat, s.row % (G.length : Int) = (T0 : Int) := ⟨(s.row % (G.length : Int)).toNat, by omega⟩
 obtain ⟨B, hB⟩ : ∃ B : Nat, s.row % (G.length : Int) + s.m % ((G.length : Int) - s.row % (G.length : Int)) = (B : Int) := ⟨(s.row % (G.length : Int) + s.m % ((G.length : Int) - s.row % (G.length : Int))).toNat, by omega⟩
 obtain ⟨k0, hk0⟩ : ∃ k0 : Int, s.n % 9 = k0 := ⟨_, rfl⟩
 have hk00 : 0 ≤ k0 ∧ k0 ≤ 8 := by omega
 have hreg : regionF { s with odd := false } (G.length : Int) = ((T0 : Int), (B : Int), k0) := by
  unfold regionF
  simp only [Bool.false_eq_true, if_false, hB, hk0]
  rw [hT0]
 have hTB : T0 ≤ B := by omega
 have hBG : B < G.length := by omega
 obtain ⟨m, hm⟩ : ∃ m : Nat, (m : Int) = min k0 ((B : Int) - T0 + 1) := ⟨(min k0 ((B : Int) - T0 + 1)).toNat, by omega⟩
 clear r1 r2 r3 r4 hB hT0
 have hup := up_get (C := C) hTB hBG hk00.1 (z := blankS s) hm
 have hwent : (scrollG true G C T0 B k0 (blankS s)).2.length = m := hup.2
 have hl1 := scrollG_len true G C T0 B k0 (blankS s)
 refine region_W k1 ok0 (R := G.length) ⟨by omega, by omega⟩ fun M4' e4' => ⟨e4'.keep _, ?_⟩
 rw [hreg]
 dsimp only
 refine ⟨_, rfl, _, rfl, _, rfl, sblank_W (e4'.ok k1) ok0 fun M9' e9' => ⟨e9'.keep _, ?_⟩⟩
 have e19 := e4'.trans e9'
 have eP9 := eP.trans e19
 refine up_W eP9 kP (gP (g1.ext e19)) (by show (T0 : Int) ≤ _; omega) (by show (B : Int) ≤ _; omega) fun v1 M11' t11 w11 => ?_
 have eP11 : Ext P7 M11' := t11.chg.ext (b := b) eP9 (by omega) (by omega)
 refine ⟨kbP eP9 eP11, ?_⟩
 have gU := w11.gp
 have hU := hup.1
 have wentG := w11.1.gr
 generalize hG1 : (scrollG true G C T0 B k0 (blankS s)).1 = G1 at hU hl1
 have gU : Gp P7 M11' b rb C G1 := by rw [← hG1]; exact gU
 clear w11
 refine rows_W eP11 kP gU fun M13 now e13 n13 => ⟨e13.keep _, step_sub (by omega) (by omega) (step_add (by omega) (by omega) (step_min ?_))⟩
 rw [← hm]
 refine step_lenG (wentG.ext e13) ?_
 have hwl : ((scrollG true G C (T0 : Int) (B : Int) k0 (blankS { s with odd := false })).2.length : Int) = (m : Int) := by rw [← hwent]; rfl
 rw [hwl]
 refine s_neF (by simp) (wpIf.ff ?_)
 have eP13 := eP11.trans e13
 have k13 := eP13.ok kP
 have was13 : GrN M9 M13 was G := (((was1.ext e19).young t11 fun x hx => by rw [hx]; exact hrl).ext e13)
 have now13 := n13.gr
 have gU13 := gU.ext e13
 have hG1C : ∀ L ∈ G1, L.length = C := gU.facts.1
 have lt13 : b1 < M13.size ∧ b3 < M13.size := by have := eP13.size; omega
 refine ⟨law11_GridRows_l4_m, gr4 M13 { s with odd := false } G.length C (.pointer (some ⟨b, 0, none⟩)) was now dv c T0 B m b1 b3, ⟨G.length, 0, M13, rfl, Ext.refl _, Nat.zero_le _, rfl⟩, ?_⟩
 rintro k st ⟨i, N, rfl, eN, hi, rfl⟩
 have kN := eN.ok k13
 have ltN : b1 < N.size ∧ b3 < N.size := by have := eN.size; omega
 refine law11_GridRows_l4_wp (I := gr4 M13 { s with odd := false } G.length C (.pointer (some ⟨b, 0, none⟩)) was now dv c T0 B m b1 b3) (step_lss (wpIf.dec (fun i1 => ?_) (fun i1 => ?_)))
 ·refine sblank_W kN ok0 fun M3 e3 => ⟨e3.keep _, new_W (e3.ok kN) (by omega) fun M5 x5 e5 n5 => ⟨e5.keep _, ?_⟩⟩
  have e35 := e3.trans e5
  have e05 := eN.trans e35
  have k5 := e05.ok k13
  have next : ∀ {M6 : Mem}, Ext M13 M6 → ∃ j, j < G.length - i ∧ gr4 M13 { s with odd := false } G.length C (.pointer (some ⟨b, 0, none⟩)) was now dv c T0 B m b1 b3 j (law11_GridRows_l4_s (.pointer (some ⟨b, 0, none⟩)) was (.int .i64 G.length) (.int .i64 C) (.int .i64 T0) (.int .i64 B) (.int .i64 m) now (.int .i64 ((i : Int) + 1)) b1 (.int .u8 c) dv b3 (.int .u8 s.what) (.int .u8 s.row) (.int .u8 s.col) (.int .u8 s.n) (.int .u8 s.m) (.int .u8 s.cell.rune) (.int .u8 s.cell.marks) (.int .u8 s.cell.attr) (.bool s.cell.wide) (.bool s.cell.high) (.bool false) [] M6) := fun e6 =>
   ⟨G.length - (i + 1), by omega, i + 1, _, rfl, e6, by omega, rfl⟩
  have nw := now13.ext e05
  have ws := (was13.ext e05).gr
  have hUi := hU i (by omega)
  obtain ⟨L, hL⟩ : ∃ L, G[i]? = some L := ⟨_, List.getElem?_eq_getElem (by omega)⟩
  have hLC := hGC L (List.mem_of_getElem? hL)
  by_cases c1 : i < T0
  ·rw [if_pos (.inl c1), hL] at hUi
   refine s_ltT (by omega) (wpIf.tt ?_)
   refine sameRow' k5 nw ws hUi hL (by omega) ?_
   exact fun _ _ _ _ => ⟨KeepB.refl _ _, _, rfl, wpIf.ff (step_add (by omega) (by omega) (next e05))⟩
  refine s_ltF (by omega) (wpIf.ff ?_)
  by_cases c2 : i > B
  ·rw [if_pos (.inr c2), hL] at hUi
   refine s_gtT (by omega) (wpIf.tt ?_)
   refine sameRow' k5 nw ws hUi hL (by omega) ?_
   exact fun _ _ _ _ => ⟨KeepB.refl _ _, _, rfl, wpIf.ff (step_add (by omega) (by omega) (next e05))⟩
  refine s_gtF (by omega) (wpIf.ff (step_add (by omega) (by omega) ?_))
  rw [if_neg (by omega)] at hUi
  by_cases c3 : i + m ≤ B
  ·obtain ⟨K, hK⟩ : ∃ K, G[i + m]? = some K := ⟨_, List.getElem?_eq_getElem (by omega)⟩
   rw [if_pos c3, hK] at hUi
   refine s_leT (by omega) (wpIf.tt (step_add (by omega) (by omega) ?_))
   have him : (i : Int) + (m : Int) = ((i + m : Nat) : Int) := by omega
   rw [him]
   refine sameRow' k5 nw ws hUi hK (by rw [hGC K (List.mem_of_getElem? hK)]; omega) ?_
   exact fun _ _ _ _ => ⟨KeepB.refl _ _, _, rfl, wpIf.ff (step_add (by omega) (by omega) (next e05))⟩
  ·rw [if_neg c3] at hUi
   refine s_leF (by omega) (wpIf.ff ?_)
   refine rdG nw (by omega) (by rw [Int.toNat_natCast]; exact hUi) fun _ x sx => same_W k5 sx n5.sl (by rw [List.length_replicate]; omega) ⟨KeepB.refl _ _, ?_⟩
   rw [decide_eq_true (by rw [Int.toNat_natCast]; rfl)]
   exact ⟨_, rfl, wpIf.ff (step_add (by omega) (by omega) (next e05))⟩
 refine blockK.hit (law11_GridRows_c3_wp (sblank_W kN ok0 fun M2' e2' => ⟨e2'.keep _, ?_⟩))
 have e02 := eN.trans e2'
 have eP2 := eP13.trans e02
 have hdn := down_get (G := G1) (C := C) hTB (by omega) (z := blankS s) (m := m) (by omega)
 have hl2 := scrollG_len false G1 C T0 B m (blankS s)
 refine down_W eP2 kP (gU13.ext e02) (by omega) (by omega) fun v2 M4'' t4 w4 => ?_
 have eP4 : Ext P7 M4'' := t4.chg.ext (b := b) eP2 (by omega) (by omega)
 refine ⟨kbP eP2 eP4, ?_⟩
 have gD := w4.gp
 have backG := w4.1.gr
 have hD := hdn.1
 have hbl : (scrollG false G1 C T0 B m (blankS s)).2.length = m := hdn.2
 generalize hG2 : (scrollG false G1 C T0 B m (blankS s)).1 = G2 at hD hl2
 have gD : Gp P7 M4'' b rb C G2 := by rw [← hG2]; exact gD
 clear w4
 refine rows_W eP4 kP gD fun M6 now2 e6 n6 => ⟨e6.keep _, ?_⟩
 have eP6 := eP4.trans e6
 have k6 := eP6.ok kP
 have was6 : GrN M9 M6 was G := (((was13.ext e02).young t4 fun x hx => by rw [hx]; exact hrl).ext e6)
 have now6 := n6.gr
 have back6 := backG.ext e6
 refine ⟨law11_GridRows_l6_m, gr6 M6 { s with odd := false } G.length C was now2 v2 dv c T0 B m b1 b3, ⟨G.length, 0, M6, rfl, Ext.refl _, Nat.zero_le _, rfl⟩, ?_⟩
 clear hi eN kN i1 ltN
 rintro k st ⟨i, N, rfl, eN, hi, rfl⟩
 have kN := eN.ok k6
 have ltN : b1 < N.size ∧ b3 < N.size := by have := eN.size; have := eP6.size; omega
 refine law11_GridRows_l6_wp (I := gr6 M6 { s with odd := false } G.length C was now2 v2 dv c T0 B m b1 b3) (step_lss (wpIf.dec (fun i1 => ?_) (fun i1 => ?_)))
 ·have next : ∀ {M7 : Mem}, Ext M6 M7 → ∃ j, j < G.length - i ∧ gr6 M6 { s with odd := false } G.length C was now2 v2 dv c T0 B m b1 b3 j (law11_GridRows_l6_s was (.int .i64 G.length) (.int .i64 C) (.int .i64 T0) (.int .i64 B) (.int .i64 m) now2 v2 (.int .i64 ((i : Int) + 1)) b1 (.int .u8 c) dv b3 (.int .u8 s.what) (.int .u8 s.row) (.int .u8 s.col) (.int .u8 s.n) (.int .u8 s.m) (.int .u8 s.cell.rune) (.int .u8 s.cell.marks) (.int .u8 s.cell.attr) (.bool s.cell.wide) (.bool s.cell.high) (.bool false) [] M7) := fun e7 =>
   ⟨G.length - (i + 1), by omega, i + 1, _, rfl, e7, by omega, rfl⟩
  have nw := now6.ext eN
  have ws := (was6.ext eN).gr
  have hDi := hD i (by omega)
  obtain ⟨L, hL⟩ : ∃ L, G[i]? = some L := ⟨_, List.getElem?_eq_getElem (by omega)⟩
  have hLC := hGC L (List.mem_of_getElem? hL)
  by_cases c1 : i < T0
  ·rw [if_pos (.inl c1), hU i (by omega), if_pos (.inl c1), hL] at hDi
   refine s_ltT (by omega) (wpIf.tt ?_)
   refine sameRow kN nw ws hDi hL (by omega) ?_
   exact fun _ _ _ _ => ⟨KeepB.refl _ _, _, rfl, wpIf.ff (s_geF (by omega) (wpIf.ff (step_add (by omega) (by omega) (next eN))))⟩
  refine s_ltF (by omega) (wpIf.ff (step_add (by omega) (by omega) ?_))
  by_cases c2 : i ≥ T0 + m
  ·have hDL : G2[i]? = some L := by
    rw [hDi]
    by_cases c3 : i > B
    ·rw [if_pos (.inr c3), hU i (by omega), if_pos (.inr c3), hL]
    ·rw [if_neg (by omega), if_neg (by omega), hU (i - m) (by omega), if_neg (by omega), if_pos (by omega), ← hL]; congr 1; omega
   refine s_geT (by omega) (wpIf.tt ?_)
   refine sameRow kN nw ws hDL hL (by omega) ?_
   exact fun _ _ _ _ => ⟨KeepB.refl _ _, _, rfl, wpIf.ff (s_geT (by omega) (wpIf.tt (step_add (by omega) (by omega) (s_ltF (by omega) (wpIf.ff (step_add (by omega) (by omega) (next eN)))))))⟩
  rw [if_neg (by omega), if_pos (by omega)] at hDi
  refine s_geF (by omega) (wpIf.ff (s_gtF (by omega) (wpIf.ff (s_geT (by omega) (wpIf.tt (step_add (by omega) (by omega) (s_ltT (by omega) (wpIf.tt ?_))))))))
  refine rdG nw (by omega) (by rw [Int.toNat_natCast]; exact hDi) fun _ x sx => sblank_W (freeze_ok N) ok0 fun M40 e40 => ⟨e40.keepF _, ?_⟩
  have e40' := e40.thaw
  have hb40 : (M40.thaw N.base).base = N.base := rfl
  generalize M40.thaw N.base = R at e40' hb40 ⊢
  refine new_W (freeze_ok R) (by omega) fun M42 x42 e42 n42 => ⟨e42.keepF _, ?_⟩
  have e42' := e42.thaw
  rw [hb40] at e42'
  have n42' : New 42 R (M42.thaw N.base) x42 (List.replicate (C : Int).toNat (blankS s)) := n42
  generalize M42.thaw N.base = R2 at e42' n42' ⊢
  have eR := e40'.trans e42'
  refine same_W (eR.ok kN) (sx.ext eR) n42'.sl (by rw [List.length_replicate]; omega) ⟨KeepB.refl _ _, ?_⟩
  rw [decide_eq_true (by rw [Int.toNat_natCast])]
  exact ⟨_, rfl, wpIf.ff (step_add (by omega) (by omega) (next (eN.trans eR)))⟩
 ·refine blockK.hit (law11_GridRows_c5_wp (step_lenG (back6.ext eN) ?_))
  have hbl' : ((scrollG false G1 C (T0 : Int) (B : Int) (m : Int) (blankS { s with odd := false })).2.length : Int) = (m : Int) := congrArg (fun n : Nat => (n : Int)) hbl
  rw [hbl']
  exact step_eql (q_of (q _) (decide_eq_true rfl).symm)
end
end Go.Proofs.Ytifemfnjoobiiaa.Run
