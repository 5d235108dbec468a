/- An append that gives a slice of unknown spare away: what it leaves as it was. -/
import Derived.Test.YtifemfnjoobiiaaRunI
namespace Go.Proofs.Ytifemfnjoobiiaa.Run
open Go Go.RowKit
set_option linter.unusedVariables false
set_option linter.unusedSimpArgs false
section
variable {P : Program} {idf : FuncId → Bool}
variable (P idf) in
def GivesX (X : Loc → World → Prop) (s : Sem Value) (φ : Loc) (M : Mem) (w : World) (v : Value) (M' : Mem) : Prop :=
 ∃ φ' v' w', s.run P w = .ok v' w' ∧ VRel φ' v v' ∧ Rep P idf φ' M' w' ∧ Stp φ M w φ' M' w' ∧ X φ' w'
theorem GivesX.imp {X Y : Loc → World → Prop} (hXY : ∀ φ' w', X φ' w' → Y φ' w') {s : Sem Value} {φ : Loc} {M : Mem} {w : World} {v : Value} {M' : Mem} (h : GivesX P idf X s φ M w v M') : GivesX P idf Y s φ M w v M' := by
 obtain ⟨φ', v', w', g1, g2, g3, g4, g5⟩ := h
 exact ⟨φ', v', w', g1, g2, g3, g4, hXY _ _ g5⟩
def Spared (φ : Loc) (M : Mem) (w : World) (b : Nat) (φ' : Loc) (w' : World) : Prop := ∃ c K cs t, φ b = some (c, K) ∧ M.get b = some (.cells cs t true) ∧ (∀ k, k ≠ c → k < w.heap.size → w'.heap[k]? = w.heap[k]?) ∧
 ∃ c' c'' : Array Value, w.heap[c]? = some (.cells c' t (0, 0)) ∧ w'.heap[c]? = some (.cells c'' t (0, 0)) ∧ c''.size = c'.size ∧ c''.toList.take cs.length = c'.toList.take cs.length ∧ ∀ b' c₁ K₁, φ' b' = some (c₁, K₁) → φ b' = none → w.heap.size ≤ c₁ ∨ c₁ = c
theorem g_append_kill {φ : Loc} {M M' : Mem} {w : World} (h : Rep P idf φ M w) {t tx ty e : TypeId} {size bytes len cap n : Nat} {z : List Value} (hu : P.underlying t = some (.slice e)) (hz : elemZ P e = some (size, z)) (hb : bytesOfT P e = some bytes)
  (hk : (∃ e', P.underlying tx = some (.slice e')) ∨ P.underlying tx = some .string) {b off : Nat} {s' x x' : Value} (hs : VRel φ (.slice (some ⟨b, off, none⟩) len cap) s') (hx : VRel φ x x') (hkind : ∀ b, x = .string b → P.underlying tx = some .string) (hkind2 : ∀ a l c, x = .slice a l c → ∃ e', P.underlying tx = some (.slice e')) (hkind3 : ∀ k, x = .chan (some k) → ∃ e', P.underlying tx = some (.slice e'))
  {v : Value} (hn0 : ¬ n = 0) (hn : lenV x = some n) (hv : appendV M e bytes size (.slice (some ⟨b, off, none⟩) len cap) x = some (v, M')) : GivesX P idf (Spared φ M w b) (Builtin.append_ #[t, tx] ty #[s', x']) φ M w v M' := by
 obtain ⟨i, y, hi, hy, hok, hsz, hs0, hyz, hzl⟩ := elemZ_info hz
 have hby : i.bytes = bytes := by simpa [bytesOfT, hi] using hb
 have hcs : P.cellsOf e = size := by simp [Program.cellsOf, hi, hsz]
 subst hsz
 have hysz : y.cells.size = i.size := by rw [← hyz] at hzl; simpa using hzl
 unfold appendV at hv
 simp only [hn, if_neg hn0] at hv
 split at hv
 ·cases hv
 rename_i new hsr
 obtain ⟨new', hr, hone, hnl, hsrc⟩ := src_ok (e' := e) h hk hx hn hsr hkind hkind2
 split at hv
 rotate_left
 ·cases hv
 rename_i hbnd
 obtain ⟨hbnd1, hbnd2⟩ := hbnd
 have grow : ∀ (base' : Option Addr) (cap' : Nat) (old old' : List Value), s' = .slice base' len cap' → LRel φ old old' → old.all Value.oneCell' = true → old.length = len * i.size → cap' < len + n →
   (Builtin.firstCells i.size len (.slice base' len cap')).run P w.drew = .ok old'.toArray w.drew →
   ∀ (M1 : Mem) (h1 : Rep P idf φ M1 w) (s1 : Stp φ M w φ M1 w), M1.size = M.size →
   GivesX P idf (fun φ' w' => (∀ k, k < w.heap.size → w'.heap[k]? = w.heap[k]?) ∧ ∀ b' c₁ K₁, φ' b' = some (c₁, K₁) → φ b' = none → w.heap.size ≤ c₁) (Builtin.append_ #[t, tx] ty #[s', x']) φ M w (.slice (some ⟨M1.size, 0, none⟩) (len + n) (len + n)) (M1.push (.cells (old ++ new) e true)) := by
  intro base' cap' old old' hse hor hoo hol hgt hfc M1 h1 s1 hsame
  subst hse
  have hfit := growslice_fits (bytes := i.bytes) hgt (by rw [hby]; omega)
  have hrun := run_append_grow_src (P := P) w t tx ty e i y hu hi hy base' len cap' old' hfc x' n new' hsrc hgt (by omega) hfit
  have hrep := h1.of_heap (w' := w.drew) rfl
  have hnl' : (old' ++ new').length = (len + n) * i.size := by
   rw [List.length_append, ← hor.length, ← hr.length, hol, hnl, Nat.add_mul]
  have hge : len + n ≤ grownCap w (len + n) cap' e := grownCap_ge
  have hcsz : ((old' ++ new').toArray ++ Builtin.zeroCells y.cells (grownCap w (len + n) cap' e - (len + n))).size = grownCap w (len + n) cap' e * i.size := by
   rw [Array.size_append, zeroCells_size, hysz]
   simp only [List.size_toArray]
   rw [hnl', ← Nat.add_mul]
   congr 1
   omega
  obtain ⟨a1, a2⟩ := hrep.alloc (o := .cells (old ++ new) e true) (o' := .cells ((old' ++ new').toArray ++ Builtin.zeroCells y.cells (grownCap w (len + n) cap' e - (len + n))) e) (K := grownCap w (len + n) cap' e)
   (.cells _ _ _ _ _ (by
    rw [hcsz, List.length_append, hol, hnl, ← Nat.add_mul]; exact Nat.mul_le_mul_right _ hge) (by
    have hl : (old ++ new).length = (old' ++ new').length := (hor.append hr).length
    have : ((old' ++ new').toArray ++ Builtin.zeroCells y.cells (grownCap w (len + n) cap' e - (len + n))).toList.take (old ++ new).length = old' ++ new' := by
     rw [hl]
     simp only [Array.toList_append, List.toList_toArray]
     exact List.take_left
    rw [this]
    exact (hor.append hr).mono (Loc.add_ext hrep.none_size)) (by simp only [List.all_append, hoo, hone, Bool.and_self]) (fun _ => rfl) (by rw [hcsz, hcs]; exact Nat.le_refl _))
  refine ⟨_, _, _, hrun, .slg _ _ w.heap.size (grownCap w (len + n) cap' e) _ _ _ (by simp [Loc.add]) (Nat.le_refl _) hge (fun _ => Nat.le_refl _), a1, ?_, fun k hk => ?_, fun b' c₁ K₁ hb' hn' => ?_⟩
  ·exact s1.trans (Stp.trans (Stp.drew (w.drawn + 1)) a2)
  ·show (w.drew.heap.push _)[k]? = _
   rw [Array.getElem?_push, if_neg (by show ¬ k = w.heap.size; omega)]; rfl
  ·unfold Loc.add at hb'
   split at hb'
   ·cases hb'; exact Nat.le_refl _
   ·rw [hn'] at hb'; cases hb'
 cases hs with
 | slg _ _ c K _ _ cap' hbb hl hcc hK =>
 split at hv
 rotate_left
 ·cases hv
 rename_i cs t' hg
 split at hv
 rotate_left
 ·cases hv
 rename_i hc
 obtain ⟨rfl, rfl, hcl, hbase⟩ := hc
 cases hv
 obtain ⟨c', fr, g2, hle, hrr, ho, hw, hKc⟩ := h.cells hbb hg
 obtain rfl := hw rfl
 by_cases hroom : len + n ≤ cap'
 ·-- in place
  have hcK := hK rfl
  have hroom2 : (len + n) * i.size ≤ c'.size := by
   rw [hcs] at hKc
   exact Nat.le_trans (Nat.mul_le_mul_right _ (Nat.le_trans hroom hcK)) hKc
  have hst := run_storeCells_at P c (0 + len * i.size) t' new' 0 c' w g2 (by rw [← hr.length, hnl]; simp; rw [Nat.add_mul] at hroom2; omega) (hr.oneCell hone)
  have he2 : c'.toList.take (0 + len * i.size + 0) ++ new' ++ c'.toList.drop (0 + len * i.size + 0 + new'.length) = splice c'.toList (len * i.size) new' := by simp [splice]
  rw [he2] at hst
  have hspl : (splice c'.toList (len * i.size) new').length = c'.size := by
   rw [splice_length (by simp; rw [← hr.length, hnl, ← Nat.add_mul]; exact hroom2)]; simp
  obtain ⟨a1, a2⟩ := h.move hbb hbase (by rw [hg]; simp) (o := .cells (cs ++ new) t' true) (o' := .cells (splice c'.toList (len * i.size) new').toArray t' (0, 0)) (w' := w.setRow c (splice c'.toList (len * i.size) new').toArray)
   (setRow_heap w c c' _ t' _ g2) (.cells _ _ _ _ _ (by
    simp only [List.size_toArray]; rw [hspl, List.length_append, hcl, hnl, ← Nat.add_mul]; exact hroom2) (by
    have e3 : (splice c'.toList (len * i.size) new').toArray.toList.take (cs ++ new).length = (c'.toList.take cs.length) ++ new' := by
     simp only [List.toList_toArray, splice]
     rw [hcl, List.length_append, hr.length, hcl]
     rw [List.take_append_of_le_length (by simp; rw [Nat.add_mul] at hroom2; omega)]
     rw [List.take_of_length_le (by simp; omega)]
    rw [e3]
    exact (hrr.append hr).mono (Loc.add_ext h.none_size)) (by simp only [List.all_append, ho, hone, Bool.and_self]) (fun _ => rfl) (by simp only [List.size_toArray]; rw [hspl]; exact hKc))
   (fun k hk => setRow_other w c k _ hk) (by simp) rfl rfl rfl
  have spared : Spared φ M w b (φ.add M.size (c, K)) (w.setRow c (splice c'.toList (len * i.size) new').toArray) := by
   refine ⟨c, K, cs, t', hbb, hg, fun k hk _ => setRow_other w c k _ hk, c', _, g2, setRow_heap w c c' _ t' _ g2, by simpa using hspl, ?_, fun b' c₁ K₁ hb' hn' => ?_⟩
   rotate_left
   ·unfold Loc.add at hb'
    split at hb'
    ·cases hb'; exact .inr rfl
    ·rw [hn'] at hb'; cases hb'
   simp only [List.toList_toArray, splice]
   rw [hcl, List.append_assoc, List.take_append_of_le_length (by simp; rw [Nat.add_mul] at hroom2; omega), List.take_of_length_le (by simp; omega)]
  refine ⟨_, .slice (some ⟨c, 0, none⟩) (len + n) cap', _, ?_, .slg _ _ _ K _ _ _ (by simp [Loc.add]) (Nat.le_refl _) hroom (fun _ => hcK), a1, a2, spared⟩
  rcases hsrc.kind with ⟨e', hk'⟩ | hk' <;> (rw [Nat.zero_add] at hst; simp [Builtin.append_, run_underlying hu, run_underlying hk', sizeOf, typeInfo, hi, hsrc.len, hroom, hsrc.cells, addr_add, hst])
 ·-- a new row
  obtain ⟨k1, k2⟩ := h.kill hbb hbase
  have hcell : ∀ j u, (c'.toList.take cs.length)[j]? = some u → w.cell? ((⟨c, 0, none⟩ : Addr).add j) = some u := by
   intro j u hj
   rw [addr_add, cell_of_row w c _ c' t' _ g2]
   rw [List.getElem?_take] at hj
   split at hj
   ·simpa using hj
   ·cases hj
  have := grow _ cap' cs (c'.toList.take cs.length) rfl hrr ho hcl (by omega) (run_firstCells_some w.drew i.size len ⟨c, 0, none⟩ len cap' _ (by rw [← hrr.length, hcl]) (by simpa using hcell)) (M.set b .dead) k1 k2 rfl
  refine GivesX.imp (X := fun φ' w' => (∀ k, k < w.heap.size → w'.heap[k]? = w.heap[k]?) ∧ ∀ b' c₁ K₁, φ' b' = some (c₁, K₁) → φ b' = none → w.heap.size ≤ c₁) (fun φ' w' g5 => ?_) (by simpa using this)
  exact ⟨c, K, cs, t', hbb, hg, fun k _ hlt => g5.1 k hlt, c', c', g2, (g5.1 c (h.lt hbb).2).trans g2, rfl, rfl, fun b' c₁ K₁ h1 h2 => .inl (g5.2 b' c₁ K₁ h1 h2)⟩
end
end Go.Proofs.Ytifemfnjoobiiaa.Run
