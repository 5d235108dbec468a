/- What scrolling does. -/
import Derived.Test.YtifemfnjoobiiaaGridC
namespace Go.Proofs.Ytifemfnjoobiiaa.Run
open Go Go.RowKit
set_option linter.unusedVariables false
set_option linter.unusedSimpArgs false
section
variable {M N : Mem} {b off s n cap : Nat} {L : List Vl} {P : Value → Prop}
end
def scrollG (up : Bool) (G : Gd) (C : Nat) (t b n : Int) (z : Ce) : Gd × Gd :=
 if 0 ≤ t ∧ t < G.length ∧ 0 ≤ b ∧ b < G.length ∧ t ≤ b ∧ 1 ≤ n then
  let R := (G.take (b.toNat + 1)).drop t.toNat
  let m := min n.toNat R.length
  let F := List.replicate m (List.replicate C z)
  if up then (G.take t.toNat ++ (R.drop m ++ F) ++ G.drop (b.toNat + 1), R.take m)
  else (G.take t.toNat ++ (F ++ R.take (R.length - m)) ++ G.drop (b.toNat + 1), R.drop (R.length - m))
 else (G, [])
def Went (M₀ M M' : Mem) (b rb C : Nat) (G : Gd) (v : Value) (W : Gd) : Prop := GrN M M' v W ∧ ∃ K : Mem, M.size ≤ K.size ∧ GrN K M' v W ∧ ∀ N, Touch (fun c => K.size ≤ c) M' N → Gp M₀ N b rb C G
section
variable {M₀ M : Mem} {b rb C : Nat} {G : Gd} {Q : Value → Mem → Prop}
theorem Went.gp {M' : Mem} {v : Value} {W : Gd} (h : Went M₀ M M' b rb C G v W) : Gp M₀ M' b rb C G := by
 obtain ⟨_, K, _, _, h⟩ := h
 exact h M' (Touch.refl _ _)
theorem Went.none {M' : Mem} (hs : M.size ≤ M'.size) (h : Gp M₀ M' b rb C G) : Went M₀ M M' b rb C G (.slice none 0 0) [] :=
 ⟨⟨[], .inr ⟨rfl, rfl⟩, by simp, rfl⟩, M', hs, ⟨[], .inr ⟨rfl, rfl⟩, by simp, rfl⟩, fun N t => h.ext ⟨t.base, t.size, fun c hc => t.get c hc (by omega)⟩⟩
theorem Went.old {M₁ M' : Mem} {v : Value} {W : Gd} (e : Ext M₁ M) (h : Went M₀ M M' b rb C G v W) : Went M₀ M₁ M' b rb C G v W := by
 obtain ⟨h1, K, h2, h3, h4⟩ := h
 exact ⟨h1.old e, K, Nat.le_trans e.size h2, h3, h4⟩
theorem Gq.away {N : Mem} {k : Nat} {P : Parts} {sp : Option Nat} {cap : Nat} {rest : List Value} (h : Gq M₀ M b rb C P sp cap rest) (hb : b < k) (hr : rb < k) (hrows : ∀ p ∈ P, ∃ c, blk p.1 = some c ∧ c < k) (t : Touch (fun c => k ≤ c) M N) : Gq M₀ N b rb C P sp cap rest :=
 by
 refine { h with gb := (t.get b (Mem.lt_of_get h.gb) (by omega)).trans h.gb, gr := (t.get rb (Mem.lt_of_get h.gr) (by omega)).trans h.gr, rows := fun p hp => ?_ }
 obtain ⟨c, h1, h2⟩ := hrows p hp
 obtain ⟨b', sp', hv, g, hlt⟩ := h.rows p hp
 have hb' : b' = c := by rw [hv] at h1; exact Option.some.inj h1
 exact ⟨b', sp', hv, (t.get b' (Mem.lt_of_get g) (by omega)).trans g, hlt⟩
theorem Gq.copy {P : Parts} {sp : Option Nat} {cap : Nat} {rest : List Value} (e : Ext M₀ M) (hb0 : M₀.base ≤ M₀.size) (h : Gq M₀ M b rb C P sp cap rest) {T B : Nat} (hT : T < B) (hB : B ≤ P.length) {nv : Value} {N : Parts} (hn : Sl M nv N.row) (hN : N.length = B - T) (hrows : ∀ p ∈ N, New 42 M₀ M p.1 p.2) (hcols : ∀ p ∈ N, p.2.length = C) {Pr : Value → Mem → Prop}
  (q : ∀ u M', Chr rb M M' → Gq M₀ M' b rb C (P.take T ++ N ++ P.drop B) sp cap rest → Pr u M') : ∃ u M', opSem (.copy 1 (.const (.slice (some ⟨rb, 0 + T * 1, some 0⟩) (B - T) (B - T))) (.const nv)) [] M = some (u, M') ∧ Pr u M' := by
 have hbs := Mem.lt_of_get h.gr
 have hr := h.hr
 have eb := e.base
 have hfl : ∀ A : Parts, (flat A.row).length = A.length := fun A => by rw [flat_row, List.length_map]
 have hNl : N.row.length = N.length := by simp
 obtain ⟨l1, l2, l3⟩ := hn.src
 have hne : N.row ≠ [] := fun h0 => by rw [h0] at hNl; simp at hNl; omega
 have l3 : srcOf M 1 nv N.row.length = some (flat N.row) := l3 hne
 rw [hNl] at l1 l3
 have hsp : splice (flat P.row ++ rest) (0 + T * 1) (flat N.row) = flat (Parts.row (P.take T ++ N ++ P.drop B)) ++ rest := by
  have h1 : flat P.row = flat (Parts.row (P.take T)) ++ (flat (Parts.row ((P.take B).drop T)) ++ flat (Parts.row (P.drop B))) := by
   simp only [flat_row]
   rw [← List.map_append, ← List.map_append]
   congr 1
   have : P.take T = (P.take B).take T := by rw [List.take_take, Nat.min_eq_left (by omega)]
   rw [this, ← List.append_assoc, List.take_append_drop, List.take_append_drop]
  have hm : (flat (Parts.row ((P.take B).drop T))).length = B - T := by rw [hfl]; simp; omega
  have hTl : (flat (Parts.row (P.take T))).length = T := by rw [hfl, List.length_take]; omega
  rw [h1, List.append_assoc, List.append_assoc]
  have e1 : 0 + T * 1 = (flat (Parts.row (P.take T))).length + 0 := by rw [hTl]; omega
  rw [e1, splice_mid _ _ _ _ (by rw [hfl, hm]; omega)]
  have e2 : splice (flat (Parts.row ((P.take B).drop T))) 0 (flat N.row) = flat N.row := by
   unfold splice
   rw [List.take_zero, List.nil_append, Nat.zero_add, List.drop_of_length_le (by rw [hm, hfl, hN]; exact Nat.le_refl _), List.append_nil]
  have e3 : flat (Parts.row (P.take T ++ N ++ P.drop B)) = flat (Parts.row (P.take T)) ++ (flat N.row ++ flat (Parts.row (P.drop B))) := by
   rw [flat_row, flat_row, flat_row, flat_row, List.map_append, List.map_append, List.append_assoc]
  rw [e2, e3, List.append_assoc, List.append_assoc]
 have hst : M.storeN rb (0 + T * 1) (flat N.row) = some (M.set rb (.cells (flat (Parts.row (P.take T ++ N ++ P.drop B)) ++ rest) 26 true)) := by
  simp only [Mem.storeN, h.gr]
  rw [if_pos ⟨by omega, by rw [List.length_append, hfl, hfl]; omega⟩, hsp]
 refine ⟨.int .i64 ((B - T : Nat) : Int), M.set rb (.cells (flat (Parts.row (P.take T ++ N ++ P.drop B)) ++ rest) 26 true), ?_, ?_⟩
 ·simp only [opSem, ev, copyV, l1]
  rw [hN, Nat.min_self, if_neg (by omega)]
  rw [hN] at l3
  simp only [l3, hst, Option.map_some]
 ·have t : Chr rb M (M.set rb (.cells (flat (Parts.row (P.take T ++ N ++ P.drop B)) ++ rest) 26 true)) := Touch.set (p := fun c => c = rb) (Touch.refl _ M) rfl hbs _
  have hk : ∀ c, c = rb → ∀ x w, M.get c ≠ some (.cells x 42 w) := fun c hc => h.kinds c (.inr hc)
  have hl : (P.take T ++ N ++ P.drop B).length = P.length := by simp only [List.length_append, List.length_take, List.length_drop]; omega
  have hin : ∀ p ∈ P.take T ++ N ++ P.drop B, p ∈ P ∨ p ∈ N := fun p hp => by
   rcases List.mem_append.1 hp with hp | hp
   ·rcases List.mem_append.1 hp with hp | hp
    ·exact .inl (List.mem_of_mem_take hp)
    ·exact .inr hp
   ·exact .inl (List.mem_of_mem_drop hp)
  refine q _ _ t { h with gb := ?_, gr := ?_, cap := by rw [hl]; exact h.cap, rows := fun p hp => ?_, cols := fun p hp => ?_, n1 := by rw [hl]; exact h.n1, n2 := by rw [hl]; exact h.n2 }
  ·rw [t.get b (Mem.lt_of_get h.gb) h.ne, hl]; exact h.gb
  ·rw [Mem.get_set _ _ _ hbs, if_pos rfl]
  ·rcases hin p hp with hp | hp
   ·exact (h.rows p hp).touch t hk
   ·exact (hrows p hp).touch t hk
  ·rcases hin p hp with hp | hp
   ·exact h.cols p hp
   ·exact hcols p hp
theorem GrN.new {v : Value} (h : GrN M₀ M v G) (hG : ∀ L ∈ G, L ≠ []) : ∃ P : Parts, Sl M v P.row ∧ (∀ p ∈ P, New 42 M₀ M p.1 p.2) ∧ P.map (·.2) = G := by
 obtain ⟨P, h1, h2, rfl⟩ := h
 exact ⟨P, h1.sl, fun p hp => (h2 p hp).new (hG _ (List.mem_map_of_mem hp)), rfl⟩
end
end Go.Proofs.Ytifemfnjoobiiaa.Run
