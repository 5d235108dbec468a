/- What Put, Insert, Delete, Erase, Resize, Level and Whole of chapter 10 do. -/
import Derived.Test.YtifemfnjoobiiaaRowB
namespace Go.Proofs.Ytifemfnjoobiiaa.Run
open Go Go.RowKit
set_option linter.unusedVariables false
set_option linter.unusedSimpArgs false
def clampN (x : Int) (n : Nat) : Nat := (max 0 (min x n)).toNat
theorem clampN_eq (x : Int) (n : Nat) : ((clampN x n : Nat) : Int) = max 0 (min x n) := by unfold clampN; omega
theorem clampN_le (x : Int) (n : Nat) : clampN x n ≤ n := by unfold clampN; omega
theorem breakF_clamp (L : List Ce) (x : Int) : breakF L x = if cutF L (clampN x L.length) then bareAt (bareAt L (clampN x L.length - 1)) (clampN x L.length) else L := rfl
section
variable {M : Mem} {Q : Value → Mem → Prop}
theorem within_W' {α : Type} [E : Enc α] {N : Mem} (hM : M.base ≤ M.size) {v : Value} {L : List α} (h : Sl N v L) {x : Int} (q : Q (.int .i64 (clampN x L.length : Nat)) M) : W funs known (.func (.func n_row_within) #[] #[]) [.int .i64 x, v] M Q :=
 within_W hM h (by rw [← clampN_eq]; exact q)
abbrev Parts := List (Value × List Ce)
abbrev Parts.row (P : Parts) : List Vl := P.map fun p => ⟨p.1⟩
abbrev Parts.all (P : Parts) : List Ce := (P.map fun p => p.2).flatten
abbrev jI (M : Mem) (P : Parts) (va : Value) : Nat → LS → Prop := fun k s => ∃ (i : Nat) (M' : Mem) (r : Value), s = row_joint_l1_s r va (.int .i64 P.length) (.int .i64 i) [] M' ∧ Ext M M' ∧ New 42 M M' r (Parts.all (P.take i)) ∧ i ≤ P.length ∧ k = P.length - i
theorem all_take_len (P : Parts) (i : Nat) : (Parts.all (P.take i)).length ≤ (Parts.all P).length := by
 conv => rhs; rw [← List.take_append_drop i P]
 simp only [Parts.all, List.map_append, List.flatten_append, List.length_append]; omega
theorem joint_W (hM : M.base ≤ M.size) {va : Value} {P : Parts} (h : Sl M va P.row) (hp : ∀ p ∈ P, Srcs M p.1 p.2) (hn : P.all.length ≤ 2 ^ 31) (hl : P.length ≤ 2 ^ 30) (q : ∀ M' r, Ext M M' → New 42 M M' r P.all → Q r M') : W funs known (.func (.func n_row_joint) #[] #[]) [va] M Q := by
 have hlen : P.row.length = P.length := by simp
 obtain ⟨ad, cap, rfl⟩ := h.shape
 rw [hlen] at h ⊢
 refine row_joint_wp hM (step_lit ([] : List Ce) rfl rfl fun r0 M2 e2 n2 => step_len ?_)
 refine ⟨row_joint_l1_m, jI M P (.slice ad P.length cap), ⟨P.length, 0, M2, r0, rfl, e2, n2, Nat.zero_le _, rfl⟩, ?_⟩
 rintro k s ⟨i, M', r, rfl, eM, nM0, hi, rfl⟩
 have nM : New 42 M M' r (Parts.all (P.take i)) := nM0
 refine row_joint_l1_wp (I := jI M P (.slice ad P.length cap)) ?_
 refine step_lss (wpIf.dec (fun h1 => ?_) (fun h1 => ?_))
 ·have hlt : i < P.length := by omega
  obtain ⟨p, hpi⟩ : ∃ p, P[i]? = some p := ⟨_, List.getElem?_eq_getElem hlt⟩
  have hat : P.row[(i : Int).toNat]? = some ⟨p.1⟩ := by rw [Int.toNat_natCast, List.getElem?_map, hpi]; rfl
  have hnext : Parts.all (P.take (i + 1)) = Parts.all (P.take i) ++ p.2 := by
   rw [List.take_add_one, hpi]; simp [Parts.all]
  have hle := all_take_len P (i + 1)
  rw [hnext, List.length_append] at hle
  refine rd1 (h.ext eM) (by omega) hat rfl (fun _ => step_app eM hM nM ((hp p (List.mem_of_getElem? hpi)).ext eM) (by omega) (by omega) fun r' M5 e5 n5 _ => step_add (by omega) (by omega) ⟨P.length - (i + 1), by omega, i + 1, M5, r', rfl, e5, by rw [hnext]; exact n5, by omega, rfl⟩)
 ·have hiP : i = P.length := by omega
  subst hiP
  rw [List.take_length] at nM
  exact blockK.hit (row_joint_c0_wp (q M' r eM nM))
theorem fill1 {α : Type} [Enc α] {N : Mem} {z1 : Value} {v1 : Value} {L1 : List α} (h1 : Srcs N v1 L1) :
  fillL [z1] ([(0, 1, Operand.const v1)].map fun p => (p.1, p.2.1, ev [] p.2.2)) = some (flat [(⟨v1⟩ : Vl)]) := by
 simp [fillL, ev, h1.cells, splice, flat, Enc.enc]
theorem fill2 {α : Type} [Enc α] {N : Mem} {z1 z2 : Value} {v1 v2 : Value} {L1 L2 : List α} (h1 : Srcs N v1 L1) (h2 : Srcs N v2 L2) :
  fillL [z1, z2] ([(0, 1, Operand.const v1), (1, 1, Operand.const v2)].map fun p => (p.1, p.2.1, ev [] p.2.2)) = some (flat [(⟨v1⟩ : Vl), ⟨v2⟩]) := by
 simp [fillL, ev, h1.cells, h2.cells, splice, flat, Enc.enc]
theorem fill3 {α : Type} [Enc α] {N : Mem} {z1 z2 z3 : Value} {v1 v2 v3 : Value} {L1 L2 L3 : List α} (h1 : Srcs N v1 L1) (h2 : Srcs N v2 L2) (h3 : Srcs N v3 L3) :
  fillL [z1, z2, z3] ([(0, 1, Operand.const v1), (1, 1, Operand.const v2), (2, 1, Operand.const v3)].map fun p => (p.1, p.2.1, ev [] p.2.2)) = some (flat [(⟨v1⟩ : Vl), ⟨v2⟩, ⟨v3⟩]) := by
 simp [fillL, ev, h1.cells, h2.cells, h3.cells, splice, flat, Enc.enc]
theorem joint3_W {b : Nat} (hM : M.base ≤ M.size) {z1 z2 z3 : Value} {v1 v2 v3 : Value} {L1 L2 L3 : List Ce} (h1 : Srcs M v1 L1) (h2 : Srcs M v2 L2) (h3 : Srcs M v3 L3) (hn : L1.length + L2.length + L3.length ≤ 2 ^ 31) (q : ∀ M' r, Ext M M' → New 42 M M' r (L1 ++ L2 ++ L3) → Q r M') :
  ∃ va M1, opSem (.lit 26 3 [z1, z2, z3] [(0, (1, (.const v1))), (1, (1, (.const v2))), (2, (1, (.const v3)))]) [] M = some (va, M1) ∧ KeepB [b] M M1 ∧ W funs known (.func (.func n_row_joint) #[] #[]) [va] M1 (fun r M2 => KeepB [b] M1 M2 ∧ Q r M2) := by
 refine step_lit [(⟨v1⟩ : Vl), ⟨v2⟩, ⟨v3⟩] (fill3 h1 h2 h3) rfl fun va M1 e1 n1 => ⟨e1.keep _, ?_⟩
 refine joint_W (P := [(v1, L1), (v2, L2), (v3, L3)]) (e1.ok hM) n1.sl (fun p hp => ?_) (by simp [Parts.all]; omega) (by simp) fun M2 r e2 n2 => ⟨e2.keep _, q M2 r (e1.trans e2) ?_⟩
 ·simp only [List.mem_cons, List.not_mem_nil, or_false] at hp
  rcases hp with rfl | rfl | rfl
  ·exact h1.ext e1
  ·exact h2.ext e1
  ·exact h3.ext e1
 ·have := n2.old e1
  simpa [Parts.all] using this
theorem joint2_W {b : Nat} (hM : M.base ≤ M.size) {z1 z2 : Value} {v1 v2 : Value} {L1 L2 : List Ce} (h1 : Srcs M v1 L1) (h2 : Srcs M v2 L2) (hn : L1.length + L2.length ≤ 2 ^ 31) (q : ∀ M' r, Ext M M' → New 42 M M' r (L1 ++ L2) → Q r M') :
  ∃ va M1, opSem (.lit 26 2 [z1, z2] [(0, (1, (.const v1))), (1, (1, (.const v2)))]) [] M = some (va, M1) ∧ KeepB [b] M M1 ∧ W funs known (.func (.func n_row_joint) #[] #[]) [va] M1 (fun r M2 => KeepB [b] M1 M2 ∧ Q r M2) := by
 refine step_lit [(⟨v1⟩ : Vl), ⟨v2⟩] (fill2 h1 h2) rfl fun va M1 e1 n1 => ⟨e1.keep _, ?_⟩
 refine joint_W (P := [(v1, L1), (v2, L2)]) (e1.ok hM) n1.sl (fun p hp => ?_) (by simp [Parts.all]; omega) (by simp) fun M2 r e2 n2 => ⟨e2.keep _, q M2 r (e1.trans e2) ?_⟩
 ·simp only [List.mem_cons, List.not_mem_nil, or_false] at hp
  rcases hp with rfl | rfl
  ·exact h1.ext e1
  ·exact h2.ext e1
 ·have := n2.old e1
  simpa [Parts.all] using this
def brk2 (L : List Ce) (i j : Int) : List Ce := breakF (breakF L i) j
def insertF (L : List Ce) (x n : Int) (c : Ce) : List Ce :=
 (brk2 L (clampN x L.length : Nat) (L.length - clampN n (L.length - clampN x L.length) : Nat)).take (clampN x L.length) ++ List.replicate (clampN n (L.length - clampN x L.length)) c ++
 ((brk2 L (clampN x L.length : Nat) (L.length - clampN n (L.length - clampN x L.length) : Nat)).take (L.length - clampN n (L.length - clampN x L.length))).drop (clampN x L.length)
def deleteF (L : List Ce) (x n : Int) (c : Ce) : List Ce :=
 (brk2 L (clampN x L.length : Nat) (clampN x L.length + clampN n (L.length - clampN x L.length) : Nat)).take (clampN x L.length) ++
 (brk2 L (clampN x L.length : Nat) (clampN x L.length + clampN n (L.length - clampN x L.length) : Nat)).drop (clampN x L.length + clampN n (L.length - clampN x L.length)) ++ List.replicate (clampN n (L.length - clampN x L.length)) c
def eraseF (L : List Ce) (x y : Int) (c : Ce) : List Ce :=
 if clampN y L.length ≤ clampN x L.length then L else
 (brk2 L (clampN x L.length : Nat) (clampN y L.length : Nat)).take (clampN x L.length) ++ List.replicate (clampN y L.length - clampN x L.length) c ++ (brk2 L (clampN x L.length : Nat) (clampN y L.length : Nat)).drop (clampN y L.length)
def resizeF (L : List Ce) (n : Nat) (c : Ce) : List Ce := (breakF L n).take n ++ List.replicate (n - L.length) c
theorem resize_W (hM : M.base ≤ M.size) {v : Value} {L : List Ce} (h : Sl M v L) (hL : L.length ≤ 2 ^ 30) {x : Int} (hx : x ≤ 2 ^ 30) {c : Ce} (q : ∀ M' r, Ext M M' → New 42 M M' r (resizeF L x.toNat c) → Q r M') : W funs known (.func (.func n_row_Resize) #[] #[]) [v, .int .i64 x, c.val] M Q := by
 obtain ⟨ad, cap, rfl⟩ := h.shape
 refine row_Resize_wp hM ⟨rfl, fun b1 M2 hb1 hM2 => step_max ?_⟩
 have e2 : Ext M M2 := Ext.push' hM2
 have k2 := e2.ok hM
 rw [show max 0 x = ((x.toNat : Nat) : Int) by omega]
 have hn : x.toNat ≤ 2 ^ 30 := by omega
 generalize x.toNat = n at q hn ⊢
 refine step_lit [(⟨(n : Int)⟩ : In)] rfl rfl fun va M5 e5 n5 => ⟨e5.keep _, ?_⟩
 refine break_W (e5.ok k2) (h.ext (e2.trans e5)) n5.sl hL (by simp) fun M7 r e7 n7 => ⟨e7.keep _, ?_⟩
 have n7 : New 42 M5 M7 r (breakF L n) := n7
 unfold resizeF at q
 have hB := breakF_len L n
 generalize breakF L n = B at q n7 hB
 have k7 := e7.ok (e5.ok k2)
 refine step_lenS n7.sl (step_min (step_to n7.sl (by omega) (by omega) fun v10 s10 => step_lenS n7.sl (step_sub (by omega) (by omega) ?_)))
 refine new_W k7 (by omega) fun M14 r13 e14 n14 => ⟨e14.keep _, ?_⟩
 rw [hB, show ((n : Int) - L.length).toNat = n - L.length by omega] at n14
 have ht : B.take (min (n : Int) B.length).toNat = B.take n := by
  by_cases hc : n ≤ B.length
  ·rw [show (min (n : Int) B.length).toNat = n by omega]
  ·rw [show (min (n : Int) B.length).toNat = B.length by omega, List.take_length, List.take_of_length_le (by omega)]
 rw [ht] at s10
 refine joint2_W (e14.ok k7) (s10.ext e14) n14.sl.srcs ?_ fun M' r' e' n' => ?_
 ·simp only [List.length_take, List.length_replicate]; omega
 ·have e0 := ((e2.trans e5).trans e7).trans e14
  exact q M' r' (e0.trans e') (n'.old e0)
def putC (c : Ce) (wide : Bool) : List Ce := if wide then [{ c with kind := 1 }, c.half] else [{ c with kind := 0 }]
def putF (L : List Ce) (x : Int) (c : Ce) (wide : Bool) : List Ce :=
 if x < 0 ∨ x + (putC c wide).length > L.length then L else (brk2 L x (x + (putC c wide).length)).take x.toNat ++ putC c wide ++ (brk2 L x (x + (putC c wide).length)).drop (x + (putC c wide).length).toNat
end
end Go.Proofs.Ytifemfnjoobiiaa.Run
