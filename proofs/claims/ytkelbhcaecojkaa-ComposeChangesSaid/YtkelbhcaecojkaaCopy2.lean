/- A copy of some cells of one row of one's own into another one. -/
import Derived.Test.YtkelbhcaecojkaaGrid
namespace Go.Proofs.Ytkelbhcaecojkaa.Run
open Go Go.RowKit
set_option linter.unusedVariables false
set_option linter.unusedSimpArgs false

/-- one of a row of one's own is set: nothing else turns -/
theorem wrG {M₀ M : Mem} (e : Ext M₀ M) (hb : M₀.base ≤ M₀.size) {ty : TypeId} {v : Value} {R : List Vl} (h : New ty M₀ M v R) {i : Nat} (hi : i < R.length) {x : Value} (hx1 : x.cells.toList = [x]) (hx2 : notTup x = true) {j : IntKind} :
    ∃ p, opSem (.addrL 1 (.const v) (.const (.int j (i : Int)))) [] M = some (p, M) ∧ ∃ u M', opSem (.store 1 (.const p) (.const x)) [] M = some (u, M') ∧ Ext M₀ M' ∧ New ty M₀ M' v (R.set i ⟨x⟩) ∧ ∀ c, c < M.size → blk v ≠ some c → M'.get c = M.get c := by
  obtain ⟨b, sp, rfl, h1, h2⟩ := h
  have hbs := Mem.lt_of_get h1
  have eb := e.base
  refine ⟨.pointer (some ⟨b, 0 + i * 1, none⟩), ?_, undef, M.set b (.cells (flat (R.set i ⟨x⟩)) ty true), ?_, e.set h2 hbs _, ⟨b, sp, by rw [List.length_set], by rw [Mem.get_set _ _ _ hbs, if_pos rfl], h2⟩, fun c hc hne => ?_⟩
  · simp only [opSem, ev]
    rw [if_pos ⟨by omega, by omega⟩, Int.toNat_natCast]
  · have hsz : x.cells.size = 1 := by have := congrArg List.length hx1; simpa using this
    have hput : splice (flat R) (0 + i * 1) [x] = flat (R.set i ⟨x⟩) := by
      have := flat_put (E := inferInstance) (L := R) (i := i) (a := R[i]) (a' := (⟨x⟩ : Vl)) (List.getElem?_eq_getElem hi) (f := 0) (vs := [x]) (Nat.le_refl 1) rfl
      rw [Nat.zero_add]; exact this
    have hlen : (flat R).length = R.length * 1 := flat_len R
    have : M.storeQ b (0 + i * 1) [x] = some (M.set b (.cells (flat (R.set i ⟨x⟩)) ty true)) := by
      simp only [Mem.storeQ, Mem.storeN, h1]
      rw [if_pos ⟨by omega, by rw [hlen, List.length_singleton]; omega⟩, hput]
    simp only [opSem, ev, hsz, hx2, hx1, and_self, if_true, this, Option.map_some]
  · rw [Mem.get_set _ _ _ hbs, if_neg]
    intro hcb; exact hne (by simp [blk, hcb])

/-- cells x.. of a row of one's own become the cells f.. of another one -/
theorem copy2 {M₀ M : Mem} (e : Ext M₀ M) (hb : M₀.base ≤ M₀.size) {v : Value} {L : List Ce} (h : New 53 M₀ M v L) {x m : Nat} (hm : 0 < m) (hx : x + m ≤ L.length) {j : IntKind} :
    ∃ d, opSem (.sliceL 14 (.const v) (some (.const (.int j (x : Int)))) (some (.const (.int j ((x : Int) + m)))) none) [] M = some (d, M) ∧
      ∀ {N M₁ : Mem} {w : Value} {S : List Ce} {f : Nat}, Ext M N → f + m ≤ S.length → New 53 M₁ N w S → ∃ s, opSem (.sliceL 14 (.const w) (some (.const (.int j (f : Int)))) none none) [] N = some (s, N) ∧
        ∃ u M', opSem (.copy 14 (.const d) (.const s)) [] N = some (u, M') ∧ Ext M₀ M' ∧ New 53 M₀ M' v (L.take x ++ (S.drop f).take m ++ L.drop (x + m)) := by
  obtain ⟨b, sp, rfl, h1, h2⟩ := h
  have hbs := Mem.lt_of_get h1
  have eb := e.base
  have hk : ∀ A : List Ce, (flat A).length = A.length * 14 := fun A => flat_len A
  refine ⟨.slice (some ⟨b, 0 + x * 14, sp⟩) m (L.length - x), ?_, fun {N M₁ w S f} eN hf hw => ?_⟩
  · have hbn : bounds L.length L.length (some (.int j (x : Int))) (some (.int j ((x : Int) + m))) none = some (x, x + m, L.length) := by
      simp only [bounds, optBound, boundV, Option.bind_some]
      rw [show ((x : Int) + m).toNat = x + m by omega]
      rw [if_pos ⟨by omega, by omega⟩]
      simp only [Option.bind_some]
      rw [if_pos ⟨by omega, by omega⟩]
      simp
    simp only [opSem, ev, Option.map_none, Option.map_some, hbn, Option.bind_some, Option.isSome_none, sliceV]
    rw [if_neg (by omega), if_neg (by omega), show x + m - x = m by omega]; rfl
  · obtain ⟨b', sp', rfl, h3, h4⟩ := hw
    refine ⟨.slice (some ⟨b', 0 + f * 14, sp'⟩) (S.length - f) (S.length - f), ?_, ?_⟩
    · have hbn : bounds S.length S.length (some (.int j (f : Int))) none none = some (f, S.length, S.length) := by
        simp only [bounds, optBound, boundV, Option.bind_some]
        rw [if_pos ⟨by omega, by omega⟩]
        simp
      simp only [opSem, ev, Option.map_none, Option.map_some, hbn, Option.bind_some, Option.isSome_none, sliceV]
      rw [if_neg (by omega), if_neg (by omega)]; rfl
    · have g1 : N.get b = some (.cells (flat L) 53 true) := eN.same h1
      have e2 := e.trans eN
      have eb2 := e2.base
      have hbN := Mem.lt_of_get g1
      have hBl : ((S.drop f).take m).length = m := by simp; omega
      have hsrc : srcOf N 14 (.slice (some ⟨b', 0 + f * 14, sp'⟩) (S.length - f) (S.length - f)) m = some (flat ((S.drop f).take m)) := by
        simp only [srcOf, Mem.loadN, h3]
        rw [if_pos (by rw [hk]; have : (f + m) * 14 ≤ S.length * 14 := Nat.mul_le_mul_right _ hf; omega), Nat.zero_add]
        have t1 : (flat S).drop (f * 14) = flat (S.drop f) := flat_drop S f
        have t2 : (flat (S.drop f)).take (m * 14) = flat ((S.drop f).take m) := flat_take (S.drop f) m
        rw [t1, t2]
      generalize (S.drop f).take m = B at hBl hsrc ⊢
      have hl : (L.take x ++ B ++ L.drop (x + m)).length = L.length := by simp only [List.length_append, List.length_take, List.length_drop]; omega
      have hst : N.storeN b (0 + x * 14) (flat B) = some (N.set b (.cells (flat (L.take x ++ B ++ L.drop (x + m))) 53 true)) := by
        simp only [Mem.storeN, g1]
        rw [if_pos ⟨by omega, by rw [hk, hk]; have : (x + B.length) * 14 ≤ L.length * 14 := Nat.mul_le_mul_right _ (by omega); omega⟩]
        congr 3
        unfold splice
        have t1 : (flat L).take (0 + x * 14) = flat (L.take x) := by rw [Nat.zero_add]; exact flat_take L x
        have t2 : (flat L).drop (0 + x * 14 + (flat B).length) = flat (L.drop (x + m)) := by
          rw [hk, Nat.zero_add, ← Nat.add_mul, hBl]; exact flat_drop L (x + m)
        rw [t1, t2, flat_append, flat_append]
      refine ⟨.int .i64 m, _, ?_, e2.set h2 hbN _, b, sp, by rw [hl], by rw [Mem.get_set _ _ _ hbN, if_pos rfl], h2⟩
      simp only [opSem, ev, copyV, lenV]
      rw [Nat.min_eq_right (by omega), if_neg (by omega), hsrc]
      simp only [hst, Option.map_some]
end Go.Proofs.Ytkelbhcaecojkaa.Run
