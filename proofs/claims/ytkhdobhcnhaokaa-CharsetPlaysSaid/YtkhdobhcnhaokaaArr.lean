/- Arrays as values, for the printed functions: '==' of arrays as one Bool; an element at an index. A text of this session's own. -/
import Derived.Test.YtkhdobhcnhaokaaWWords
import Derived.Test.YtkhdobhcnhaokaaWEqStruct
import Derived.Test.YtkhdobhcnhaokaaWMore
import Derived.Laws.StructEq
namespace Go.Proofs.Ytkhdobhcnhaokaa.Arr
open Go.RowKit Go.Proofs.YtkhdobhcnhaokaaW.PrintWords

/-- '==' over the elements i, i + 1, .. of two arrays. -/
def eqElems (d : Nat) (e n : Nat) (xs ys : Array Value) : List Nat → Sem Bool
  | [] => pure true
  | i :: is => do
    let a ← part e xs (i * n)
    let b ← part e ys (i * n)
    let r ← Op.equalIn d e a b
    if (!r) = true then pure false else eqElems d e n xs ys is

theorem run_equalIn_array {P : Program} (w : World) (d : Nat) (t e len n : Nat) (xs ys : Array Value) (ht : P.underlying t = some (.array len e)) (hn : ∀ w : World, (sizeOf e).run P w = .ok n w) :
    (Op.equalIn (d + 1) t (.agg xs) (.agg ys)).run P w = (eqElems d e n xs ys (List.range' 0 len)).run P w := by
  simp only [Op.equalIn, Sem.run_bind, run_underlying ht, Result.andThen_ok, hn]
  rw [Std.Legacy.Range.forIn_eq_forIn_range']
  simp only [Std.Legacy.Range.size, Nat.sub_zero, Nat.add_sub_cancel, Nat.div_one]
  generalize List.range' 0 len = is
  induction is generalizing w with
  | nil => simp [eqElems]
  | cons i is ih =>
    simp only [List.forIn_cons, eqElems, Sem.run_bind]
    generalize (part e xs (i * n)).run P w = r1
    cases r1 with
    | ok a w1 =>
      simp only [Result.andThen_ok]
      generalize (part e ys (i * n)).run P w1 = r2
      cases r2 with
      | ok b w2 =>
        simp only [Result.andThen_ok]
        generalize (Op.equalIn d e a b).run P w2 = r3
        cases r3 with
        | ok r w3 =>
          cases r
          · simp only [Result.andThen_ok, Bool.not_false, if_true, Sem.run_pure]
          · simp only [Result.andThen_ok, Bool.not_true, Bool.false_eq_true, if_false, Sem.run_pure]
            exact ih w3
        | halt x w3 => simp [Result.andThen]
      | halt x w2 => simp [Result.andThen]
    | halt x w1 => simp [Result.andThen]

section
variable {P : Program} {d e n : Nat} {xs ys : Array Value} {i : Nat} {is : List Nat} {a b : Value} {r s : Bool} {w : World}
theorem eqr_last (ha : (part e xs (i * n)).run P w = .ok a w) (hb : (part e ys (i * n)).run P w = .ok b w) (he : (Op.equalIn d e a b).run P w = .ok r w) : (eqElems d e n xs ys [i]).run P w = .ok r w := by
  simp only [eqElems, Sem.run_bind, ha, hb, he, Result.andThen_ok]
  cases r <;> simp
theorem eqr_cons (ha : (part e xs (i * n)).run P w = .ok a w) (hb : (part e ys (i * n)).run P w = .ok b w) (he : (Op.equalIn d e a b).run P w = .ok r w) (hr : (eqElems d e n xs ys is).run P w = .ok s w) : (eqElems d e n xs ys (i :: is)).run P w = .ok (r && s) w := by
  rw [eqElems]
  simp only [Sem.run_bind, ha, hb, he, Result.andThen_ok]
  cases r
  · simp
  · simpa using hr
theorem eqr_of {t len : Nat} (ht : P.underlying t = some (.array len e)) (hn : ∀ w : World, (sizeOf e).run P w = .ok n w) (h : (eqElems d e n xs ys (List.range' 0 len)).run P w = .ok r w) : (Op.equalIn (d + 1) t (.agg xs) (.agg ys)).run P w = .ok r w := by
  rw [run_equalIn_array w d t e len n xs ys ht hn]; exact h
end

/-- An element of an array of whole numbers, at whatever index lies in it. -/
theorem run_index_nums {P : Program} (w : World) {t e len : Nat} {k q : IntKind} (l : List Int) (i : Int) (ht : P.underlying t = some (.array len e)) (he : P.underlying e = some (.int k)) (hs : ∀ w : World, (sizeOf e).run P w = .ok 1 w) (hl : l.length = len)
    (h0 : decide (0 ≤ i) = true) (h1 : decide (i < (len : Int)) = true) :
    (Instr.index t (.agg (l.map (Value.int k)).toArray) (.int q i)).run P w = .ok (.int k (rd l i)) w := by
  have g0 : 0 ≤ i := of_decide_eq_true h0
  have g1 : i < (len : Int) := of_decide_eq_true h1
  have hi : i.toNat < l.length := by omega
  have hagg : (isAgg e).run P w = .ok false w := by
    unfold isAgg
    rw [Sem.run_bind, run_underlying he w]
    simp
  have hv : ((l.map (Value.int k)).toArray)[i.toNat * 1]? = some (.int k (rd l i)) := by
    simp [rd, hi]
  simp only [Instr.index, asIntOf, Sem.run_bind, Sem.run_pure, Result.andThen_ok, run_underlying ht]
  rw [if_pos ⟨g0, g1⟩]
  simp only [part, Sem.run_bind, hs, hagg, Result.andThen_ok, Bool.false_eq_true, if_false]
  rw [hv]
  rfl

/-- Behind a call that only makes memory: what lay there is there, and may be written as before. -/
theorem bcell {W w1 : World} (hb : Below W.heap.size W w1) : (∀ b o, b < W.heap.size → w1.cell? ⟨b, o, none⟩ = W.cell? ⟨b, o, none⟩) ∧ (∀ b o, b < W.heap.size → w1.frozen? ⟨b, o, none⟩ = W.frozen? ⟨b, o, none⟩) :=
  ⟨fun b o h => hb.cell (p := ⟨b, o, none⟩) h, fun b o h => hb.frozen (p := ⟨b, o, none⟩) h⟩
theorem below_setRow {B : Nat} {a w : World} (h : Below B a w) (g : Nat) (cs : Array Value) (hB : B ≤ g) : Below B a (w.setRow g cs) :=
  h.trans ⟨rfl, rfl, rfl, by simp, fun k hk => setRow_other w g k cs (by omega)⟩
theorem below_two {w w1 : World} {o1 o2 : Obj} (h : Below ((w.alloc o1).alloc o2).heap.size ((w.alloc o1).alloc o2) w1) : Below w.heap.size w w1 :=
  Below.trans (((Below.refl w.heap.size w).alloc (Nat.le_refl _) _).alloc (by simp) _) (h.mono (by simp <;> omega))
theorem two_lt {w w1 : World} {o1 o2 : Obj} (h : Below ((w.alloc o1).alloc o2).heap.size ((w.alloc o1).alloc o2) w1) : w.heap.size + 1 < w1.heap.size := by
  have := h.size
  simp at this
  omega
theorem bset0 {B o : Nat} {a w : World} {v : Value} (h : Below B a w) : Below B a (w.setCell ⟨B, o, none⟩ v) := h.setCell (p := ⟨B, o, none⟩) (Nat.le_refl _) v
theorem bset1 {B o : Nat} {a w : World} {v : Value} (h : Below B a w) : Below B a (w.setCell ⟨B + 1, o, none⟩ v) := h.setCell (p := ⟨B + 1, o, none⟩) (Nat.le_succ _) v
theorem two_blk0 {w w1 : World} {o1 o2 : Obj} (h : Below ((w.alloc o1).alloc o2).heap.size ((w.alloc o1).alloc o2) w1) : w1.heap[w.heap.size]? = some o1 := by
  rw [h.block w.heap.size (by simp <;> omega)]
  exact heap_alloc2_old w o1 o2
theorem two_blk1 {w w1 : World} {o1 o2 : Obj} (h : Below ((w.alloc o1).alloc o2).heap.size ((w.alloc o1).alloc o2) w1) : w1.heap[w.heap.size + 1]? = some o2 := by
  rw [h.block (w.heap.size + 1) (by simp)]
  exact heap_alloc2_new w o1 o2
end Go.Proofs.Ytkhdobhcnhaokaa.Arr
