/- What an act does to a grid. -/
import Derived.Test.YtklnbkacnghdnaaRectP
import Derived.Test.YtklnbkacnghdnaaVcA
import Derived.Test.YtklnbkacnghdnaaVcD
namespace Go.Proofs.Ytklnbkacnghdnaa.Run
open Go Go.RowKit
set_option linter.unusedVariables false
set_option linter.unusedSimpArgs false
structure An where
  what : Int
  t : Int
  l : Int
  r : Int
  c : Int
  row : Int
  col : Int
  d : Dr
  runes : Int
instance : Enc An := ⟨13, fun a => [.int .u8 a.what, .int .i64 a.t, .int .i64 a.l, .int .i64 a.r, .int .i64 a.c, .int .i64 a.row, .int .i64 a.col, .int .u8 a.d.rune, .int .u8 a.d.marks, .int .u8 a.d.attr, .bool a.d.wide, .bool a.d.high, .int .u8 a.runes], fun _ => rfl, by decide⟩
abbrev An.val (a : An) : Value := .agg (Enc.enc a).toArray
structure An.ok (a : An) : Prop where
  what : 0 ≤ a.what ∧ a.what ≤ 255
  t : I64 a.t
  l : I64 a.l
  r : I64 a.r
  c : I64 a.c
  row : I64 a.row
  col : I64 a.col
  d : a.d.ok
  runes : 0 ≤ a.runes ∧ a.runes ≤ 255
theorem step_remT {P : Value → Prop} {k : IntKind} {x y : Int} (hy : y ≠ 0) (p : P (.int k (x.tmod y))) : ∃ v, binV .rem 0 [] (.int k x) (.int k y) = some v ∧ P v :=
  ⟨.int k (x.tmod y), by simp only [binV, isShift, Bool.false_eq_true, if_false, if_true, intOp, if_neg hy], p⟩
theorem tmod_bound (x y : Int) (hy : 0 < y) : -y < x.tmod y ∧ x.tmod y < y := by
  rcases Int.le_total 0 x with h | h
  · rw [Int.tmod_eq_emod_of_nonneg h]
    have := Int.emod_nonneg x (show y ≠ 0 by omega)
    have := Int.emod_lt_of_pos x hy
    omega
  · have : x.tmod y = -((-x).tmod y) := by rw [Int.neg_tmod]; omega
    rw [this, Int.tmod_eq_emod_of_nonneg (by omega)]
    have := Int.emod_nonneg (-x) (show y ≠ 0 by omega)
    have := Int.emod_lt_of_pos (-x) hy
    omega
def smallF (n : Int) : Int := if n.tmod 16 = 15 then n else (n.tmod 14 + 14).tmod 14 - 2
theorem small_ok {n : Int} (h : I64 n) : I64 (smallF n) := by
  unfold smallF
  split
  · exact h
  · have := tmod_bound (n.tmod 14 + 14) 14 (by decide)
    exact ⟨by omega, by omega⟩
def An.rect (a : An) : Rc := ⟨smallF a.t, smallF a.l, smallF a.r, smallF a.c⟩
theorem An.ok.rect {a : An} (h : a.ok) : a.rect.ok := ⟨small_ok h.t, small_ok h.l, small_ok h.r, small_ok h.c⟩
section
variable {M : Mem} {Q : Value → Mem → Prop}
theorem small_W (hM : M.base ≤ M.size) {n : Int} (q : Q (.int .i64 (smallF n)) M) : W funs known (.func (.func n_law12_small) #[] #[]) [.int .i64 n] M Q := by
  have h1 := tmod_bound n 14 (by decide)
  have h2 := tmod_bound (n.tmod 14 + 14) 14 (by decide)
  refine law12_small_wp hM (step_remT (by decide) (step_eql (wpIf.dec (fun h => ?_) (fun h => ?_))))
  · unfold smallF at q; rwa [if_pos h] at q
  · unfold smallF at q
    rw [if_neg h] at q
    exact step_remT (by decide) (step_add (by omega) (by omega) (step_remT (by decide) (step_sub (by omega) (by omega) q)))
theorem rect1_W (hM : M.base ≤ M.size) {a : An} (q : ∀ M', Ext M M' → Q a.rect.val M') : W funs known (.func (.func n_law12_Act_rect1) #[] #[]) [a.val] M Q := by
  refine law12_Act_rect1_wp hM ⟨rfl, fun b1 M2 hb1 hM2 => ⟨rfl, fun b3 M4 hb3 hM4 => ?_⟩⟩
  have e4 : Ext M M4 := (Ext.push' hM2).trans (Ext.push' hM4)
  have s2 : M2.size = M.size + 1 := by rw [hM2]; rfl
  have s4 : M4.size = M2.size + 1 := by rw [hM4]; rfl
  refine small_W (freeze_ok _) ⟨fun _ _ _ => rfl, small_W (freeze_ok _) ⟨fun _ _ _ => rfl, small_W (freeze_ok _) ⟨fun _ _ _ => rfl, small_W (e4.ok hM) ⟨fun _ _ _ => rfl, a.rect.val, rfl, ⟨rfl, rfl, by decide⟩, fun M14 hM14 => LGetN.as a.rect.val (by exact Nat.le_refl 4) rfl (q _ (hM14 ▸ e4.set (by omega) (by omega) _))⟩⟩⟩⟩
theorem works12_W {M : Mem} (h : Q (.bool true) M) : W funs known (.func (.func n_law12_works) #[] #[]) [] M Q := W_known rfl h
theorem grid_flush (c : Int) (T : Lns) : Flush (gridF c T) (c % 31).toNat := by
  intro L hL
  obtain ⟨p, _, rfl⟩ := List.mem_map.1 hL
  rw [rowF_len]
  have : c % 31 % 31 = c % 31 := by omega
  rw [this]
end
end Go.Proofs.Ytklnbkacnghdnaa.Run
namespace Go.Proofs.Ytklnbkacnghdnaa.Run
open Go Go.RowKit
set_option linter.unusedVariables false
set_option linter.unusedSimpArgs false
structure Rn where
  n : Int
instance : Enc Rn := ⟨1, fun a => [.int .i32 a.n], fun _ => rfl, by decide⟩
section
variable {M : Mem} {Q : Value → Mem → Prop}
end
end Go.Proofs.Ytklnbkacnghdnaa.Run
