/- Copies of grids, and whether two are alike. -/
import Derived.Test.YtifemfnjoobiiaaScroll
import Derived.Test.YtifemfnjoobiiaaRowD
namespace Go.Proofs.Ytifemfnjoobiiaa.Run
open Go Go.RowKit
set_option linter.unusedVariables false
set_option linter.unusedSimpArgs false
section
variable {M₀ M : Mem} {b rb C : Nat} {G : Gd} {Q : Value → Mem → Prop}
structure Rj (S : Mem) (rb : Nat) (P : Parts) (rest : List Value) (f : List Ce → List Ce) (i : Nat) (B : List Nat) (N : Mem) : Prop where
 t : Chr rb S N
 rw : ∃ P' : Parts, N.get rb = some (.cells (flat P'.row ++ rest) 26 true) ∧ P'.length = P.length ∧ (∀ k p, P[k]? = some p → i ≤ k → P'[k]? = some p) ∧
  (∀ k p, P[k]? = some p → k < i → ∃ x c, P'[k]? = some (x, f p.2) ∧ New 42 S N x (f p.2) ∧ blk x = some c ∧ c ∈ B)
 bl : ∀ c ∈ B, S.size + 2 ≤ c ∧ c < N.size
variable {S N N' : Mem} {P : Parts} {rest : List Value} {f : List Ce → List Ce} {i : Nat} {B : List Nat}
theorem Rj.zero (h : S.get rb = some (.cells (flat P.row ++ rest) 26 true)) : Rj S rb P rest f 0 [] S :=
 ⟨Touch.refl _ _, ⟨P, h, rfl, fun k p hp _ => hp, fun k p _ hk => absurd hk (by omega)⟩, by simp⟩
theorem New.blk_keep {α : Type} [Enc α] {ty : TypeId} {v : Value} {L : List α} {c : Nat} (h : New ty S N v L) (hc : blk v = some c) (k : N'.get c = N.get c) : New ty S N' v L := by
 obtain ⟨b', sp, rfl, g, hlt⟩ := h
 cases hc
 exact ⟨b', sp, rfl, k.trans g, hlt⟩
theorem Rj.keep (hrb : rb < S.size) (h : Rj S rb P rest f i B N) (k : Keep S.size [] B N N') : Rj S rb P rest f i B N' := by
 obtain ⟨t, ⟨P', h1, h2, h3, h4⟩, h5⟩ := h
 have ks : ∀ c, c < S.size → N'.get c = N.get c := fun c hc => k.get c (.inl ⟨hc, by simp⟩)
 refine ⟨⟨k.base.trans t.base, Nat.le_trans t.size k.size, fun c hc hp => (ks c hc).trans (t.get c hc hp)⟩, ⟨P', (ks rb hrb).trans h1, h2, h3, fun j p hp hj => ?_⟩, fun c hc => ⟨(h5 c hc).1, by have := (h5 c hc).2; have := k.size; omega⟩⟩
 obtain ⟨x, c, a1, a2, a3, a4⟩ := h4 j p hp hj
 exact ⟨x, c, a1, a2.blk_keep a3 (k.get c (.inr a4)), a3, a4⟩
theorem row_load {P' : Parts} {k : Nat} {p : Value × List Ce} (h : N.get rb = some (.cells (flat P'.row ++ rest) 26 true)) (hp : P'[k]? = some p) : N.load1 rb (0 + k * 1) = some p.1 := by
 have hk := (List.getElem?_eq_some_iff.1 hp).1
 simp only [Mem.load1, h]
 rw [List.getElem?_append_left (by rw [flat_row, List.length_map]; omega), flat_row, List.getElem?_map, Nat.zero_add, Nat.mul_one, hp]; rfl
theorem Rj.read (h : Rj S rb P rest f i B N) {k : Nat} {p : Value × List Ce} (hk : i ≤ k) (hp : P[k]? = some p) : N.load1 rb (0 + k * 1) = some p.1 := by
 obtain ⟨t, ⟨P', h1, h2, h3, h4⟩, h5⟩ := h
 exact row_load h1 (h3 k p hp hk)
theorem Rj.set (hrb : rb < S.size) (hw : S.base ≤ rb) (h : Rj S rb P rest f i B N) {p : Value × List Ce} (hp : P[i]? = some p) {x : Value} {c : Nat} (hx : New 42 S N x (f p.2)) (hc : blk x = some c) (hc2 : S.size + 2 ≤ c) {sp : Option Nat} {cap : Nat} {j : IntKind} {Pr : Value → Value → Mem → Prop}
  (q : ∀ a u N', Chr rb N N' → N'.size = N.size → Rj S rb P rest f (i + 1) (B ++ [c]) N' → Pr a u N') :
  ∃ a, opSem (.addrL 1 (.const (.slice (some ⟨rb, 0, sp⟩) P.length cap)) (.const (.int j (i : Int)))) [] N = some (a, N) ∧ ∃ u N', opSem (.store 1 (.const a) (.const x)) [] N = some (u, N') ∧ Pr a u N' := by
 have hi := (List.getElem?_eq_some_iff.1 hp).1
 obtain ⟨t, ⟨P', h1, h2, h3, h4⟩, h5⟩ := h
 refine ⟨.pointer (some ⟨rb, 0 + i * 1, none⟩), ?_, ?_⟩
 ·simp only [opSem, ev]
  rw [if_pos ⟨by omega, by omega⟩, Int.toNat_natCast]
 ·have hl : (flat P'.row).length = P'.length := by rw [flat_row, List.length_map]
  have hbs := Mem.lt_of_get h1
  have hset : (flat P'.row ++ rest).set (0 + i * 1) x = flat (Parts.row (P'.set i (x, f p.2))) ++ rest := by
   rw [List.set_append_left _ _ (by omega), flat_row, flat_row, List.map_set, Nat.zero_add, Nat.mul_one]
  have tb := t.base
  refine pt_st h1 (by omega) (by rw [List.length_append]; omega) hx.cells1.1 hx.cells1.2.2 fun u N' hN' => ?_
  rw [hset] at hN'
  have t' : Chr rb N N' := by subst hN'; exact Touch.set (p := fun c => c = rb) (Touch.refl _ N) rfl hbs _
  have sz : N'.size = N.size := by rw [hN']; rfl
  have clt : c < N.size := by
   obtain ⟨b', sp', rfl, g, _⟩ := hx
   cases hc; exact Mem.lt_of_get g
  refine q _ u N' t' sz ⟨t.trans t', ⟨P'.set i (x, f p.2), ?_, by rw [List.length_set]; exact h2, fun k p' hp' hk => ?_, fun k p' hp' hk => ?_⟩, fun c' hc' => ?_⟩
  ·rw [hN', Mem.get_set _ _ _ hbs, if_pos rfl]
  ·rw [List.getElem?_set_ne (by omega)]; exact h3 k p' hp' (by omega)
  ·by_cases hki : k = i
   ·subst hki
    rw [hp] at hp'; cases hp'
    exact ⟨x, c, by rw [List.getElem?_set_self (by omega)], hx.blk_keep hc (t'.get c clt (by omega)), hc, by simp⟩
   ·obtain ⟨x', c', a1, a2, a3, a4⟩ := h4 k p' hp' (by omega)
    have := h5 c' a4
    exact ⟨x', c', by rw [List.getElem?_set_ne (by omega)]; exact a1, a2.blk_keep a3 (t'.get c' this.2 (by omega)), a3, List.mem_append_left _ a4⟩
  ·rw [sz]
   rcases List.mem_append.1 hc' with hc' | hc'
   ·exact h5 c' hc'
   ·rw [List.mem_singleton] at hc'; subst hc'; exact ⟨hc2, clt⟩
theorem Rj.all (h : Rj S rb P rest f P.length B N) : ∃ P' : Parts, N.get rb = some (.cells (flat P'.row ++ rest) 26 true) ∧ P'.map (·.2) = (P.map (·.2)).map f ∧ (∀ p ∈ P', New 42 S N p.1 p.2) := by
 obtain ⟨t, ⟨P', h1, h2, h3, h4⟩, h5⟩ := h
 have hk : ∀ (k : Nat) (p : Value × List Ce), P[k]? = some p → ∃ x, P'[k]? = some (x, f p.2) ∧ New 42 S N x (f p.2) := fun k p hp => by
  obtain ⟨x, c, a1, a2, _⟩ := h4 k p hp (List.getElem?_eq_some_iff.1 hp).1
  exact ⟨x, a1, a2⟩
 refine ⟨P', h1, ?_, fun p hp => ?_⟩
 ·refine List.ext_getElem? fun k => ?_
  rw [List.getElem?_map, List.getElem?_map, List.getElem?_map]
  cases hp : P[k]? with
  | none => rw [List.getElem?_eq_none (by have := List.getElem?_eq_none_iff.1 hp; omega)]; rfl
  | some p => obtain ⟨x, a1, _⟩ := hk k p hp; rw [a1]; rfl
 ·obtain ⟨k, hk'⟩ := List.mem_iff_getElem?.1 hp
  obtain ⟨p0, hp0⟩ : ∃ p0, P[k]? = some p0 := ⟨_, List.getElem?_eq_getElem (by have := (List.getElem?_eq_some_iff.1 hk').1; omega)⟩
  obtain ⟨x, a1, a2⟩ := hk k p0 hp0
  rw [hk'] at a1; cases a1; exact a2
def raiseG (G : Gd) (l : Int) : Gd := G.map fun L => L.map (Ce.raise l)
def resizeG (G : Gd) (r c : Nat) (z : Ce) : Gd := (G.map fun L => resizeF L c z).take r ++ List.replicate (r - G.length) (List.replicate c z)
end
end Go.Proofs.Ytifemfnjoobiiaa.Run
namespace Go.Proofs.Ytifemfnjoobiiaa.Run
open Go Go.RowKit
set_option linter.unusedVariables false
set_option linter.unusedSimpArgs false
section
variable {M₀ M : Mem} {b rb C : Nat} {G : Gd} {Q : Value → Mem → Prop}
theorem gcopy_W (e : Ext M₀ M) (hb0 : M₀.base ≤ M₀.size) (h : Gp M₀ M b rb C G) (q : ∀ M' b' rb', Ext M M' → Gp M₀ M' b' rb' C G → M.size ≤ b' → M.size ≤ rb' → Q (.pointer (some ⟨b', 0, none⟩)) M') :
  W funs known (.func (.func n_grid_Grid_Copy) #[] #[]) [.pointer (some ⟨b, 0, none⟩)] M Q := by
 have hM := e.ok hb0
 have hf := h.facts
 obtain ⟨P, sp, cap, rest, h1, rfl⟩ := h
 have hPl : P.row.length = P.length := by simp
 refine grid_Grid_Copy_wp hM ⟨.bool false, rfl, wpIf.ff (g_rows h1.gb fun _ _ => cloneL_W (freeze_ok M) h1.slN (by rw [hPl]; have := h1.n2; omega) fun M6 r e6 n6 => ?_)⟩
 have e6' := e6.thaw
 have n6' : Mine 26 M (M6.thaw M.base) r P.row := n6
 generalize M6.thaw M.base = R at e6' n6' ⊢
 have h1R := h1.ext e6'
 refine g_cols h1R.gb fun _ _ => ?_
 rcases n6' with ⟨rb', sp', rfl, g', hlt⟩ | ⟨h0, _⟩
 ·refine ⟨_, rfl, rfl, fun b11 M12 hb11 hM12 => ?_⟩
  have e12 : Ext R M12 := Ext.push' hM12
  have s6 := e6'.size
  have s0 := e.size
  refine q M12 b11 rb' (e6'.trans e12) ⟨P, sp', P.length, [], ⟨by omega, by omega, ?_, ?_, Nat.le_refl _, fun p hp => ((h1R.rows p hp).ext e12), h1.cols, h1.c1, h1.c2, h1.n1, h1.n2⟩, rfl⟩ (by omega) hlt
  ·rw [hM12, Mem.get_push, if_pos hb11, hPl]; rfl
  ·rw [List.append_nil]; exact e12.same g'
 ·have := h1.n1
  rw [h0] at hPl; simp at hPl; omega
end
end Go.Proofs.Ytifemfnjoobiiaa.Run
