
/- What the small functions of chapter 10 do: contracts over the calculus. -/
import Derived.Test.YtifemfnjoobiiaaVc
import Derived.Test.YtifemfnjoobiiaaStep
namespace Go.Proofs.Ytifemfnjoobiiaa.Run
open Go Go.RowKit
set_option linter.unusedVariables false
set_option linter.unusedSimpArgs false
structure At9 where
 a1 : Int
 a2 : Int
 a3 : Int
 a4 : Int
 a5 : Int
 a6 : Int
 a7 : Int
 a8 : Int
 a9 : Int
deriving DecidableEq
structure Ce where
 rune : Int
 m1 : Int
 m2 : Int
 kind : Int
 attr : At9
 label : Int
deriving DecidableEq
def At9.cells (a : At9) : List Value := [.int .u8 a.a1, .int .u8 a.a2, .int .u8 a.a3, .int .u8 a.a4, .int .u8 a.a5, .int .u8 a.a6, .int .u8 a.a7, .int .u8 a.a8, .int .u16 a.a9]
instance : Enc Ce := ⟨14, fun c => [.int .i32 c.rune, .int .i32 c.m1, .int .i32 c.m2, .int .u8 c.kind, .int .u8 c.attr.a1, .int .u8 c.attr.a2, .int .u8 c.attr.a3, .int .u8 c.attr.a4, .int .u8 c.attr.a5, .int .u8 c.attr.a6, .int .u8 c.attr.a7, .int .u8 c.attr.a8, .int .u16 c.attr.a9, .int .u8 c.label], fun _ => rfl, by decide⟩
abbrev Ce.val (c : Ce) : Value := .agg (Enc.enc c).toArray
section
variable {M : Mem} {Q : Value → Mem → Prop}
def Ce.half (c : Ce) : Ce := ⟨0, 0, 0, 2, c.attr, c.label⟩
def blankF (a : At9) (l : Int) : Ce := ⟨0, 0, 0, 0, ⟨0, 0, 0, 0, a.a5, a.a6, a.a7, a.a8, 0⟩, l⟩
abbrev nwI (M : Mem) (c : Ce) (v : Value) (n : Nat) (b1 : Nat) (z : Ce) : Nat → LS → Prop := fun k s => ∃ (i : Nat) (M' : Mem), s = row_New_l1_s v (.int .i64 n) (.int .i64 i) b1 (.int .i32 c.rune) (.int .i32 c.m1) (.int .i32 c.m2) (.int .u8 c.kind) (.int .u8 c.attr.a1) (.int .u8 c.attr.a2) (.int .u8 c.attr.a3) (.int .u8 c.attr.a4) (.int .u8 c.attr.a5) (.int .u8 c.attr.a6) (.int .u8 c.attr.a7) (.int .u8 c.attr.a8) (.int .u16 c.attr.a9) (.int .u8 c.label) [] M' ∧
 Ext M M' ∧ New 42 M M' v (List.replicate i c ++ List.replicate (n - i) z) ∧ i ≤ n ∧ k = n - i
def zeroC : Ce := ⟨0, 0, 0, 0, ⟨0, 0, 0, 0, 0, 0, 0, 0, 0⟩, 0⟩
set_option maxHeartbeats 1000000 in
theorem new_W (hM : M.base ≤ M.size) {n : Int} {c : Ce} (hn : n ≤ 2 ^ 30) (q : ∀ M' r, Ext M M' → New 42 M M' r (List.replicate n.toNat c) → Q r M') : W funs known (.func (.func n_row_New) #[] #[]) [.int .i64 n, c.val] M Q := by
 refine row_New_wp hM ⟨rfl, fun b1 M2 hb1 hM2 => step_max ?_⟩
 have e2 : Ext M M2 := Ext.push' hM2
 have hb2 : b1 < M2.size := by rw [hM2]; simp; omega
 have hmx : max 0 n = ((n.toNat : Nat) : Int) := by omega
 rw [hmx]
 generalize hN : n.toNat = N at q ⊢
 have hN30 : N ≤ 2 ^ 30 := by omega
 refine ⟨.slice (some ⟨M2.size, 0, some 0⟩) N N, M2.push (.cells (rep N (Enc.enc zeroC)) 42 true), ?_, (Ext.push _ _).keep _, step_len ?_⟩
 ·simp only [opSem, ev]
  rw [if_pos ⟨by omega, Int.le_refl _, by omega, by omega⟩, Int.toNat_natCast]; rfl
 have e5 : Ext M2 (M2.push (.cells (rep N (Enc.enc zeroC)) 42 true)) := Ext.push _ _
 have n5 : New 42 M2 (M2.push (.cells (rep N (Enc.enc zeroC)) 42 true)) (.slice (some ⟨M2.size, 0, some 0⟩) N N) (List.replicate 0 c ++ List.replicate (N - 0) zeroC) := by
  refine ⟨M2.size, some 0, by simp, ?_, Nat.le_refl _⟩
  rw [Mem.get_push, if_pos rfl, List.replicate_zero, List.nil_append, Nat.sub_zero, flat_replicate]
 generalize M2.push (.cells (rep N (Enc.enc zeroC)) 42 true) = M5 at e5 n5 ⊢
 generalize (Value.slice (some ⟨M2.size, 0, some 0⟩) N N) = v at n5 ⊢
 have k2 := e2.ok hM
 refine ⟨row_New_l1_m, nwI M2 c v N b1 zeroC, ⟨N, 0, M5, rfl, e5, n5, Nat.zero_le _, rfl⟩, ?_⟩
 rintro k s ⟨i, M', rfl, eM, nM0, hi, rfl⟩
 have nM : New 42 M2 M' v (List.replicate i c ++ List.replicate (N - i) zeroC) := nM0
 refine row_New_l1_wp (I := nwI M2 c v N b1 zeroC) ?_
 refine step_lss (wpIf.dec (fun h1 => ?_) (fun h1 => ?_))
 ·have hlt : i < N := by omega
  have hget : (List.replicate i c ++ List.replicate (N - i) zeroC)[i]? = some zeroC := by
   rw [List.getElem?_append_right (by simp), List.length_replicate, Nat.sub_self, List.getElem?_replicate, if_pos (by omega)]
  obtain ⟨b, g1, u, M4, g2, e4, n4⟩ := nM.store eM k2 hget (f := 0) (vs := (Enc.enc c)) (a' := c) (x := c.val) (by exact Nat.le_refl 14) rfl (by simp [Ce.val, Value.cells]) rfl (j := .i64)
  refine ⟨_, g1, u, M4, g2, fun z hz _ => by rw [List.mem_singleton] at hz; subst hz; rw [e4.get _ hb2, eM.get _ hb2], step_add (by omega) (by omega) ⟨N - (i + 1), by omega, i + 1, M4, rfl, e4, ?_, by omega, rfl⟩⟩
  have : (List.replicate i c ++ List.replicate (N - i) zeroC).set i c = List.replicate (i + 1) c ++ List.replicate (N - (i + 1)) zeroC := by
   rw [List.set_append_right _ _ (by simp), List.length_replicate, Nat.sub_self, show N - i = (N - (i + 1)) + 1 by omega, List.replicate_succ, List.set_cons_zero, List.replicate_succ', List.append_assoc]; rfl
  rw [← this]; exact n4
 ·have hiN : i = N := by omega
  subst hiN
  refine blockK.hit (row_New_c0_wp ?_)
  refine q M' v (e2.trans eM) ?_
  have := nM.old e2
  rw [Nat.sub_self, List.replicate_zero, List.append_nil] at this
  exact this
structure Lv where
 n : Int
instance : Enc Lv := ⟨1, fun a => [.int .u8 a.n], fun _ => rfl, by decide⟩
def joinF (x y : Int) : Int := if x > 0 ∨ y > 0 then 1 else 0
def Ce.raise (l : Int) (c : Ce) : Ce := { c with label := joinF c.label l }
def Ce.bare (c : Ce) : Ce := ⟨0, 0, 0, 0, c.attr, c.label⟩
end
end Go.Proofs.Ytifemfnjoobiiaa.Run
