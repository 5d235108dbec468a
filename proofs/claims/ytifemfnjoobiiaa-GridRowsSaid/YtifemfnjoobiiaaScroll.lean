/- What scrolling does. -/
import Derived.Test.YtifemfnjoobiiaaGridC
namespace Go.Proofs.Ytifemfnjoobiiaa.Run
open Go Go.RowKit
set_option linter.unusedVariables false
set_option linter.unusedSimpArgs false
theorem New.young {α : Type} [Enc α] {ty : TypeId} {M₁ M M' : Mem} {v : Value} {L : List α} {p : Nat → Prop} (h : New ty M₁ M v L) (k : Touch p M M') (hp : ∀ c, p c → c < M₁.size) : New ty M₁ M' v L := by
 obtain ⟨b, sp, rfl, g, hlt⟩ := h
 exact ⟨b, sp, rfl, (k.get b (Mem.lt_of_get g) fun hb => by have := hp b hb; omega).trans g, hlt⟩
theorem Mine.young {α : Type} [Enc α] {ty : TypeId} {M₁ M M' : Mem} {v : Value} {L : List α} {p : Nat → Prop} (h : Mine ty M₁ M v L) (k : Touch p M M') (hp : ∀ c, p c → c < M₁.size) : Mine ty M₁ M' v L := h.imp (fun h => h.young k hp) id
theorem GrN.young {M₁ M M' : Mem} {v : Value} {G : Gd} {p : Nat → Prop} (h : GrN M₁ M v G) (k : Touch p M M') (hp : ∀ c, p c → c < M₁.size) : GrN M₁ M' v G := by
 obtain ⟨P, h1, h2, h3⟩ := h
 exact ⟨P, h1.young k hp, fun x hx => (h2 x hx).young k hp, h3⟩
section
variable {M N : Mem} {b off s n cap : Nat} {L : List Vl} {P : Value → Prop}
theorem sl_to (h : Sl M (.slice (some ⟨b, off, some s⟩) n cap) L) {i : Int} (h0 : 0 ≤ i) (hi : i ≤ L.length) {j : IntKind} (q : ∀ v', Sl M v' (L.take i.toNat) → P v') : ∃ x, opSem (.sliceL 1 (.const (.slice (some ⟨b, off, some s⟩) n cap)) none (some (.const (.int j i))) none) [] N = some (x, N) ∧ P x := by
 obtain ⟨a', cap', he, h1, h2⟩ := h
 cases he
 have hb : bounds L.length cap none (some (.int j i)) none = some (0, i.toNat, cap) := by
  simp only [bounds, optBound, boundV, Option.bind_some]
  rw [if_pos ⟨h0, by omega⟩]
  simp
 by_cases hc : cap = 0
 ·have hz : L = [] := List.length_eq_zero_iff.1 (by omega)
  refine ⟨.slice (some ⟨b, off, some 0⟩) 0 0, ?_, q _ ⟨_, 0, by simp [hz]; rfl, by simp [hz], .inl (by simp [hz])⟩⟩
  simp only [opSem, ev, Option.map_none, Option.map_some, hb, Option.bind_some, sliceV]
  rw [if_neg (by simp), if_pos hc]; simp
 ·refine ⟨.slice (some ⟨b, off, some s⟩) i.toNat cap, ?_, q _ ⟨_, cap, by rw [List.length_take, Nat.min_eq_left (by omega)], by rw [List.length_take]; omega, ?_⟩⟩
  ·simp only [opSem, ev, Option.map_none, Option.map_some, hb, Option.bind_some, sliceV]
   rw [if_neg (by simp), if_neg hc]; simp
  ·rcases h2 with h2 | ⟨b', off', sp', h3, h4, _⟩
   ·exact .inl (by rw [h2]; simp)
   ·cases h3
    refine .inr ⟨b, off, some s, rfl, ?_, trivial⟩
    have h4 : M.loadN b off (L.length * 1) = some (flat L) := h4
    have h5 := loadN_sub h4 (f := 0) (m := i.toNat * 1) (by omega)
    rw [Nat.add_zero, List.drop_zero] at h5
    have t : (flat L).take (i.toNat * 1) = flat (L.take i.toNat) := flat_take L i.toNat
    rw [t] at h5
    rw [List.length_take, Nat.min_eq_left (by omega)]
    exact h5
theorem sl_from (h : Sl M (.slice (some ⟨b, off, some s⟩) n cap) L) {i : Int} (h0 : 0 ≤ i) (hi : i ≤ L.length) {j : IntKind} (q : ∀ v', Sl M v' (L.drop i.toNat) → P v') : ∃ x, opSem (.sliceL 1 (.const (.slice (some ⟨b, off, some s⟩) n cap)) (some (.const (.int j i))) none none) [] N = some (x, N) ∧ P x := by
 obtain ⟨a', cap', he, h1, h2⟩ := h
 cases he
 have hb : bounds L.length cap (some (.int j i)) none none = some (i.toNat, L.length, cap) := by
  simp only [bounds, optBound, boundV, Option.bind_some]
  rw [if_pos ⟨h0, by omega⟩]
  simp
 by_cases hc : cap = i.toNat
 ·have hz : L.drop i.toNat = [] := List.drop_of_length_le (by omega)
  refine ⟨.slice (some ⟨b, off, some 0⟩) 0 0, ?_, q _ ⟨_, 0, by rw [hz]; rfl, by rw [hz]; simp, .inl hz⟩⟩
  simp only [opSem, ev, Option.map_none, Option.map_some, hb, Option.bind_some, sliceV]
  rw [if_neg (by simp), if_pos hc]; simp
 ·refine ⟨.slice (some ⟨b, off + i.toNat * 1, some s⟩) (L.length - i.toNat) (cap - i.toNat), ?_, q _ ⟨_, cap - i.toNat, by rw [List.length_drop], by rw [List.length_drop]; omega, ?_⟩⟩
  ·simp only [opSem, ev, Option.map_none, Option.map_some, hb, Option.bind_some, sliceV]
   rw [if_neg (by simp), if_neg hc]; simp
  ·rcases h2 with h2 | ⟨b', off', sp', h3, h4, _⟩
   ·exact .inl (by rw [h2]; simp)
   ·cases h3
    refine .inr ⟨b, off + i.toNat * 1, some s, rfl, ?_, trivial⟩
    have h4 : M.loadN b off (L.length * 1) = some (flat L) := h4
    have h5 := loadN_sub h4 (f := i.toNat * 1) (m := (L.length - i.toNat) * 1) (by omega)
    have t : (flat L).drop (i.toNat * 1) = flat (L.drop i.toNat) := flat_drop L i.toNat
    have t2 : (flat (L.drop i.toNat)).length = (L.drop i.toNat).length * 1 := flat_len _
    rw [t, List.take_of_length_le (by rw [t2, List.length_drop]; exact Nat.le_refl _)] at h5
    rw [List.length_drop]
    exact h5
end
def scrollG (up : Bool) (G : Gd) (C : Nat) (t b n : Int) (z : Ce) : Gd × Gd :=
 if 0 ≤ t ∧ t < G.length ∧ 0 ≤ b ∧ b < G.length ∧ t ≤ b ∧ 1 ≤ n then
  let R := (G.take (b.toNat + 1)).drop t.toNat
  let m := min n.toNat R.length
  let F := List.replicate m (List.replicate C z)
  if up then (G.take t.toNat ++ (R.drop m ++ F) ++ G.drop (b.toNat + 1), R.take m)
  else (G.take t.toNat ++ (F ++ R.take (R.length - m)) ++ G.drop (b.toNat + 1), R.drop (R.length - m))
 else (G, [])
theorem New.blk_lt {α : Type} [Enc α] {ty : TypeId} {M₀ M : Mem} {v : Value} {L : List α} (h : New ty M₀ M v L) : ∃ c, blk v = some c ∧ c < M.size := by
 obtain ⟨b', sp, rfl, g, _⟩ := h
 exact ⟨b', rfl, Mem.lt_of_get g⟩
def Went (M₀ M M' : Mem) (b rb C : Nat) (G : Gd) (v : Value) (W : Gd) : Prop := GrN M M' v W ∧ ∃ K : Mem, M.size ≤ K.size ∧ GrN K M' v W ∧ ∀ N, Touch (fun c => K.size ≤ c) M' N → Gp M₀ N b rb C G
section
variable {M₀ M : Mem} {b rb C : Nat} {G : Gd} {Q : Value → Mem → Prop}
theorem Went.gp {M' : Mem} {v : Value} {W : Gd} (h : Went M₀ M M' b rb C G v W) : Gp M₀ M' b rb C G := by
 obtain ⟨_, K, _, _, h⟩ := h
 exact h M' (Touch.refl _ _)
theorem Went.none {M' : Mem} (hs : M.size ≤ M'.size) (h : Gp M₀ M' b rb C G) : Went M₀ M M' b rb C G (.slice none 0 0) [] :=
 ⟨⟨[], .inr ⟨rfl, rfl⟩, by simp, rfl⟩, M', hs, ⟨[], .inr ⟨rfl, rfl⟩, by simp, rfl⟩, fun N t => h.ext ⟨t.base, t.size, fun c hc => t.get c hc (by omega)⟩⟩
theorem Went.old {M₁ M' : Mem} {v : Value} {W : Gd} (e : Ext M₁ M) (h : Went M₀ M M' b rb C G v W) : Went M₀ M₁ M' b rb C G v W := by
 obtain ⟨h1, K, h2, h3, h4⟩ := h
 exact ⟨h1.old e, K, Nat.le_trans e.size h2, h3, h4⟩
theorem Gq.away {N : Mem} {k : Nat} {P : Parts} {sp : Option Nat} {cap : Nat} {rest : List Value} (h : Gq M₀ M b rb C P sp cap rest) (hb : b < k) (hr : rb < k) (hrows : ∀ p ∈ P, ∃ c, blk p.1 = some c ∧ c < k) (t : Touch (fun c => k ≤ c) M N) : Gq M₀ N b rb C P sp cap rest :=
 by
 refine { h with gb := (t.get b (Mem.lt_of_get h.gb) (by omega)).trans h.gb, gr := (t.get rb (Mem.lt_of_get h.gr) (by omega)).trans h.gr, rows := fun p hp => ?_ }
 obtain ⟨c, h1, h2⟩ := hrows p hp
 obtain ⟨b', sp', hv, g, hlt⟩ := h.rows p hp
 have hb' : b' = c := by rw [hv] at h1; exact Option.some.inj h1
 exact ⟨b', sp', hv, (t.get b' (Mem.lt_of_get g) (by omega)).trans g, hlt⟩
theorem Gq.copy {P : Parts} {sp : Option Nat} {cap : Nat} {rest : List Value} (e : Ext M₀ M) (hb0 : M₀.base ≤ M₀.size) (h : Gq M₀ M b rb C P sp cap rest) {T B : Nat} (hT : T < B) (hB : B ≤ P.length) {nv : Value} {N : Parts} (hn : Sl M nv N.row) (hN : N.length = B - T) (hrows : ∀ p ∈ N, New 42 M₀ M p.1 p.2) (hcols : ∀ p ∈ N, p.2.length = C) {Pr : Value → Mem → Prop}
  (q : ∀ u M', Chr rb M M' → Gq M₀ M' b rb C (P.take T ++ N ++ P.drop B) sp cap rest → Pr u M') : ∃ u M', opSem (.copy 1 (.const (.slice (some ⟨rb, 0 + T * 1, some 0⟩) (B - T) (B - T))) (.const nv)) [] M = some (u, M') ∧ Pr u M' := by
 have hbs := Mem.lt_of_get h.gr
 have hr := h.hr
 have eb := e.base
 have hfl : ∀ A : Parts, (flat A.row).length = A.length := fun A => by rw [flat_row, List.length_map]
 have hNl : N.row.length = N.length := by simp
 obtain ⟨l1, l2, l3⟩ := hn.src
 have hne : N.row ≠ [] := fun h0 => by rw [h0] at hNl; simp at hNl; omega
 have l3 : srcOf M 1 nv N.row.length = some (flat N.row) := l3 hne
 rw [hNl] at l1 l3
 have hsp : splice (flat P.row ++ rest) (0 + T * 1) (flat N.row) = flat (Parts.row (P.take T ++ N ++ P.drop B)) ++ rest := by
  have h1 : flat P.row = flat (Parts.row (P.take T)) ++ (flat (Parts.row ((P.take B).drop T)) ++ flat (Parts.row (P.drop B))) := by
   simp only [flat_row]
   rw [← List.map_append, ← List.map_append]
   congr 1
   have : P.take T = (P.take B).take T := by rw [List.take_take, Nat.min_eq_left (by omega)]
   rw [this, ← List.append_assoc, List.take_append_drop, List.take_append_drop]
  have hm : (flat (Parts.row ((P.take B).drop T))).length = B - T := by rw [hfl]; simp; omega
  have hTl : (flat (Parts.row (P.take T))).length = T := by rw [hfl, List.length_take]; omega
  rw [h1, List.append_assoc, List.append_assoc]
  have e1 : 0 + T * 1 = (flat (Parts.row (P.take T))).length + 0 := by rw [hTl]; omega
  rw [e1, splice_mid _ _ _ _ (by rw [hfl, hm]; omega)]
  have e2 : splice (flat (Parts.row ((P.take B).drop T))) 0 (flat N.row) = flat N.row := by
   unfold splice
   rw [List.take_zero, List.nil_append, Nat.zero_add, List.drop_of_length_le (by rw [hm, hfl, hN]; exact Nat.le_refl _), List.append_nil]
  have e3 : flat (Parts.row (P.take T ++ N ++ P.drop B)) = flat (Parts.row (P.take T)) ++ (flat N.row ++ flat (Parts.row (P.drop B))) := by
   rw [flat_row, flat_row, flat_row, flat_row, List.map_append, List.map_append, List.append_assoc]
  rw [e2, e3, List.append_assoc, List.append_assoc]
 have hst : M.storeN rb (0 + T * 1) (flat N.row) = some (M.set rb (.cells (flat (Parts.row (P.take T ++ N ++ P.drop B)) ++ rest) 26 true)) := by
  simp only [Mem.storeN, h.gr]
  rw [if_pos ⟨by omega, by rw [List.length_append, hfl, hfl]; omega⟩, hsp]
 refine ⟨.int .i64 ((B - T : Nat) : Int), M.set rb (.cells (flat (Parts.row (P.take T ++ N ++ P.drop B)) ++ rest) 26 true), ?_, ?_⟩
 ·simp only [opSem, ev, copyV, l1]
  rw [hN, Nat.min_self, if_neg (by omega)]
  rw [hN] at l3
  simp only [l3, hst, Option.map_some]
 ·have t : Chr rb M (M.set rb (.cells (flat (Parts.row (P.take T ++ N ++ P.drop B)) ++ rest) 26 true)) := Touch.set (p := fun c => c = rb) (Touch.refl _ M) rfl hbs _
  have hk : ∀ c, c = rb → ∀ x w, M.get c ≠ some (.cells x 42 w) := fun c hc => h.kinds c (.inr hc)
  have hl : (P.take T ++ N ++ P.drop B).length = P.length := by simp only [List.length_append, List.length_take, List.length_drop]; omega
  have hin : ∀ p ∈ P.take T ++ N ++ P.drop B, p ∈ P ∨ p ∈ N := fun p hp => by
   rcases List.mem_append.1 hp with hp | hp
   ·rcases List.mem_append.1 hp with hp | hp
    ·exact .inl (List.mem_of_mem_take hp)
    ·exact .inr hp
   ·exact .inl (List.mem_of_mem_drop hp)
  refine q _ _ t { h with gb := ?_, gr := ?_, cap := by rw [hl]; exact h.cap, rows := fun p hp => ?_, cols := fun p hp => ?_, n1 := by rw [hl]; exact h.n1, n2 := by rw [hl]; exact h.n2 }
  ·rw [t.get b (Mem.lt_of_get h.gb) h.ne, hl]; exact h.gb
  ·rw [Mem.get_set _ _ _ hbs, if_pos rfl]
  ·rcases hin p hp with hp | hp
   ·exact (h.rows p hp).touch t hk
   ·exact (hrows p hp).touch t hk
  ·rcases hin p hp with hp | hp
   ·exact h.cols p hp
   ·exact hcols p hp
abbrev scI (N : Mem) (W : Parts) (rg nw wv : Value) (z : Ce) (b1 : Nat) : Nat → LS → Prop := fun k s => ∃ (i : Nat) (M' : Mem) (v : Value), s = grid_Grid_scroll_l3_s rg nw v wv (.int .i64 W.length) (.int .i64 i) b1 (.int .i32 z.rune) (.int .i32 z.m1) (.int .i32 z.m2) (.int .u8 z.kind) (.int .u8 z.attr.a1) (.int .u8 z.attr.a2) (.int .u8 z.attr.a3) (.int .u8 z.attr.a4) (.int .u8 z.attr.a5) (.int .u8 z.attr.a6) (.int .u8 z.attr.a7) (.int .u8 z.attr.a8) (.int .u16 z.attr.a9) (.int .u8 z.label) [] M' ∧
 Ext N M' ∧ GrN N M' v ((W.map (·.2)).take i) ∧ i ≤ W.length ∧ k = W.length - i
set_option maxHeartbeats 1000000 in
theorem scroll_tail {s : LS} {N1 : Mem} (e : Ext M₀ N1) (hb0 : M₀.base ≤ M₀.size) {P : Parts} {sp : Option Nat} {cap : Nat} {rest : List Value} (h1 : Gq M₀ N1 b rb C P sp cap rest) {b1 : Nat} (hb1 : b1 < N1.size) (hb1' : b1 ≠ rb) {W : Parts} (hW : ∀ p ∈ W, p ∈ P) (hWl : W.length ≤ 512) {wv : Value} (hwv : Sl N1 wv W.row)
  {T B : Nat} (hT : T < B) (hB : B ≤ P.length) {nv : Value} {N : Parts} (hn : Sl N1 nv N.row) (hN : N.length = B - T) (hrows : ∀ p ∈ N, New 42 M₀ N1 p.1 p.2) (hcols : ∀ p ∈ N, p.2.length = C) {z : Ce} {len : Value} (hlen : len = .int .i64 W.length)
  (hs : s.forget grid_Grid_scroll_l3_m = grid_Grid_scroll_l3_s (.slice (some ⟨rb, 0 + T * 1, some 0⟩) (B - T) (B - T)) nv (.slice none 0 0) wv len (.int .i64 0) b1 (.int .i32 z.rune) (.int .i32 z.m1) (.int .i32 z.m2) (.int .u8 z.kind) (.int .u8 z.attr.a1) (.int .u8 z.attr.a2) (.int .u8 z.attr.a3) (.int .u8 z.attr.a4) (.int .u8 z.attr.a5) (.int .u8 z.attr.a6) (.int .u8 z.attr.a7) (.int .u8 z.attr.a8) (.int .u16 z.attr.a9) (.int .u8 z.label) [] N1)
  (q : ∀ v M', Chr rb N1 M' → Gq M₀ M' b rb C (P.take T ++ N ++ P.drop B) sp cap rest → (∀ p ∈ P.take T ++ N ++ P.drop B, ∃ c, blk p.1 = some c ∧ c < N1.size) → GrN N1 M' v (W.map (·.2)) → Q v M') :
  LoopW (wpC funs known none grid_Grid_scroll_l3) s (blockK 0 (seqK (fun s => wpC funs known none grid_Grid_scroll_c2 s (retK mf57 Q)) (retK mf57 Q))) := by
 subst hlen
 have hNb := e.ok hb0
 refine ⟨grid_Grid_scroll_l3_m, scI N1 W (.slice (some ⟨rb, 0 + T * 1, some 0⟩) (B - T) (B - T)) nv wv z b1, ⟨W.length, ?_⟩, ?_⟩
 ·rw [hs]
  exact ⟨0, N1, .slice none 0 0, rfl, Ext.refl _, ⟨[], .inr ⟨rfl, rfl⟩, by simp, by simp⟩, Nat.zero_le _, rfl⟩
 clear hs
 rintro k s' ⟨i, M', v, rfl, eM, nM, hi, rfl⟩
 refine grid_Grid_scroll_l3_wp (I := scI N1 W (.slice (some ⟨rb, 0 + T * 1, some 0⟩) (B - T) (B - T)) nv wv z b1) (step_lss (wpIf.dec (fun g1 => ?_) (fun g1 => ?_)))
 ·obtain ⟨p, hp⟩ : ∃ p, W[i]? = some p := ⟨_, List.getElem?_eq_getElem (by omega)⟩
  have hpP := hW p (List.mem_of_getElem? hp)
  have hpr : W.row[i]? = some ⟨p.1⟩ := by show (W.map _)[i]? = _; rw [List.getElem?_map, hp]; rfl
  refine rdV (hwv.ext eM) (by omega) (by rw [Int.toNat_natCast]; exact hpr) fun _ => cloneC_W (eM.ok hNb) ((h1.rows p hpP).sl.ext eM) (by rw [h1.cols p hpP]; have := h1.c2; omega) fun M5 x e5 n5 => ⟨e5.keep _, ?_⟩
  have e05 := eM.trans e5
  obtain ⟨l, M7, hl, e7, v9, M9, ha, e9, g9, _⟩ := appG (bytes := 24) (z := .slice none 0 0) e05 hNb (nM.ext e5) (n5.old eM) (by simp only [List.length_take, List.length_map]; omega) (by decide)
  refine ⟨l, M7, hl, e7.keep _, v9, M9, ha, keepE hb1 (e05.trans e7) e9, step_add (by omega) (by omega) ⟨W.length - (i + 1), by omega, i + 1, M9, v9, rfl, e9, ?_, by omega, rfl⟩⟩
  have hm : (W.map (·.2))[i]? = some p.2 := by rw [List.getElem?_map, hp]; rfl
  obtain ⟨q1, q2⟩ := List.getElem?_eq_some_iff.1 hm
  rw [List.take_succ_eq_append_getElem q1, q2]; exact g9
 ·have : i = W.length := by omega
  subst this
  rw [List.take_of_length_le (by simp)] at nM
  refine blockK.hit (grid_Grid_scroll_c2_wp ?_)
  refine (h1.ext eM).copy (e.trans eM) hb0 hT hB (hn.ext eM) hN (fun p hp => (hrows p hp).ext eM) hcols fun u M2 t2 h2 => ⟨fun x hx hlt => t2.get x hlt (by rw [List.mem_singleton] at hx; omega), q v M2 ((eM.touch _).trans t2) h2 (fun p hp => ?_) (nM.young t2 fun c hc => by rw [hc]; exact Mem.lt_of_get h1.gr)⟩
  rcases List.mem_append.1 hp with hp | hp
  ·rcases List.mem_append.1 hp with hp | hp
   ·exact (h1.rows p (List.mem_of_mem_take hp)).blk_lt
   ·exact (hrows p hp).blk_lt
  ·exact (h1.rows p (List.mem_of_mem_drop hp)).blk_lt
theorem GrN.new {v : Value} (h : GrN M₀ M v G) (hG : ∀ L ∈ G, L ≠ []) : ∃ P : Parts, Sl M v P.row ∧ (∀ p ∈ P, New 42 M₀ M p.1 p.2) ∧ P.map (·.2) = G := by
 obtain ⟨P, h1, h2, rfl⟩ := h
 exact ⟨P, h1.sl, fun p hp => (h2 p hp).new (hG _ (List.mem_map_of_mem hp)), rfl⟩
theorem fill2S {N : Mem} {z1 z2 : Value} {v1 v2 : Value} {L1 L2 : List Vl} (h1 : Sl N v1 L1) (h2 : Sl N v2 L2) :
  fillL [z1, z2] ([(0, 1, Operand.const v1), (1, 1, Operand.const v2)].map fun p => (p.1, p.2.1, ev [] p.2.2)) = some (flat [(⟨v1⟩ : Vl), ⟨v2⟩]) := fill2 h1.srcs h2.srcs
theorem concat2_W {M : Mem} {Q : Value → Value → Mem → Prop} (hM : M.base ≤ M.size) {z1 z2 v1 v2 : Value} {L1 L2 : Parts} (h1 : Sl M v1 L1.row) (h2 : Sl M v2 L2.row) (hn : L1.length + L2.length ≤ 2 ^ 20) {bs : List Nat} {ty : TypeId} (q : ∀ va M' r, Ext M M' → Sl M' r (Parts.row (L1 ++ L2)) → KeepB bs M M' → Q va r M') :
  ∃ va M1, opSem (.lit ty 2 [z1, z2] [(0, (1, (.const v1))), (1, (1, (.const v2)))]) [] M = some (va, M1) ∧ KeepB bs M M1 ∧ W funs known (.func (.func n_slices_Concat__api_Cell__api_Cell) #[] #[]) [va] M1 (fun r M2 => KeepB bs M1 M2 ∧ Q va r M2) := by
 refine step_lit [(⟨v1⟩ : Vl), ⟨v2⟩] (fill2S h1 h2) rfl fun va M1 e1 n1 => ⟨e1.keep _, ?_⟩
 refine concat_W (R := [(v1, L1.row), (v2, L2.row)]) (e1.ok hM) n1.sl (fun p hp => ?_) (by simp [Rws.all]; omega) (by simp) fun M2 r e2 n2 => ⟨e2.keep _, q va M2 r (e1.trans e2) ?_ ((e1.trans e2).keep _)⟩
 ·simp only [List.mem_cons, List.not_mem_nil, or_false] at hp
  rcases hp with rfl | rfl
  ·exact (h1.ext e1).srcs
  ·exact (h2.ext e1).srcs
 ·have := n2.sl
  simpa [Rws.all, Parts.row] using this
set_option maxHeartbeats 2000000 in
theorem scroll_W (e : Ext M₀ M) (hb0 : M₀.base ≤ M₀.size) (h : Gp M₀ M b rb C G) {t bt n : Int} {z : Ce} {up : Bool} (ht : t ≤ 2 ^ 40) (hbt : bt ≤ 2 ^ 40)
  (q : ∀ v M', Chr rb M M' → Went M₀ M M' b rb C (scrollG up G C t bt n z).1 v (scrollG up G C t bt n z).2 → Q v M') : W funs known (.func (.func n_grid_Grid_scroll) #[] #[]) [.pointer (some ⟨b, 0, none⟩), .int .i64 t, .int .i64 bt, .int .i64 n, z.val, .bool up] M Q := by
 have hM := e.ok hb0
 have hf := h.facts
 refine grid_Grid_scroll_wp hM ⟨rfl, fun b1 M2 hb1 hM2 => ?_⟩
 have e2 : Ext M M2 := Ext.push' hM2
 have s2 : M2.size = M.size + 1 := by rw [hM2]; rfl
 have h2 := h.ext e2
 have hno : ¬ (0 ≤ t ∧ t < G.length ∧ 0 ≤ bt ∧ bt < G.length ∧ t ≤ bt ∧ 1 ≤ n) → Q (.slice none 0 0) M2 := fun hn => by
  have hs : scrollG up G C t bt n z = (G, []) := by unfold scrollG; rw [if_neg hn]
  rw [hs] at q
  exact q _ M2 (e2.touch _) (Went.none e2.size h2)
 refine is_W (e2.ok hM) h2 ⟨KeepB.refl _ _, _, rfl, ?_⟩
 by_cases g1 : 0 ≤ t ∧ t < G.length
 rotate_left
 ·rw [decide_eq_false g1]; exact wpIf.tt (hno fun h => g1 ⟨h.1, h.2.1⟩)
 rw [decide_eq_true g1]
 refine wpIf.ff (is_W (e2.ok hM) h2 ⟨KeepB.refl _ _, _, rfl, ?_⟩)
 by_cases g2 : 0 ≤ bt ∧ bt < G.length
 rotate_left
 ·rw [decide_eq_false g2]; exact wpIf.tt (hno fun h => g2 ⟨h.2.2.1, h.2.2.2.1⟩)
 rw [decide_eq_true g2]
 refine wpIf.ff (step_gtr (wpIf.dec (fun g3 => hno fun h => by omega) (fun g3 => step_lss (wpIf.dec (fun g4 => hno fun h => by omega) (fun g4 => ?_)))))
 obtain ⟨P, sp, cap, rest, h1, rfl⟩ := h2
 have hPl : (P.map (·.2)).length = P.length := by simp
 rw [hPl] at g1 g2
 obtain ⟨T, rfl⟩ : ∃ T : Nat, t = (T : Int) := ⟨t.toNat, by omega⟩
 obtain ⟨B0, rfl⟩ : ∃ B0 : Nat, bt = (B0 : Int) := ⟨bt.toNat, by omega⟩
 have n512 := h1.n2
 have c1 := h1.c1
 have c2 := h1.c2
 obtain ⟨B, hB⟩ : ∃ B, B = B0 + 1 := ⟨_, rfl⟩
 have hB1 : (B0 : Int) + 1 = (B : Int) := by omega
 have hTB : T < B := by omega
 have hBn : B ≤ P.length := by omega
 obtain ⟨m, hm⟩ : ∃ m : Nat, m = min n.toNat (B - T) := ⟨_, rfl⟩
 have hm1 : 1 ≤ m := by omega
 have hmk : m ≤ B - T := by omega
 obtain ⟨R, hR⟩ : ∃ R : Parts, R = (P.take B).drop T := ⟨_, rfl⟩
 have hRl : R.length = B - T := by rw [hR, List.length_drop, List.length_take]; omega
 have hRin : ∀ p ∈ R, p ∈ P := fun p hp => by rw [hR] at hp; exact List.mem_of_mem_take (List.mem_of_mem_drop hp)
 have hRr : R.row.length = R.length := by simp
 have hsc : scrollG up (P.map (·.2)) C T B0 n z = if up then (((P.map (·.2)).take T ++ (((R.map (·.2)).drop m) ++ List.replicate m (List.replicate C z)) ++ (P.map (·.2)).drop B), (R.map (·.2)).take m)
   else (((P.map (·.2)).take T ++ (List.replicate m (List.replicate C z) ++ (R.map (·.2)).take (B - T - m)) ++ (P.map (·.2)).drop B), (R.map (·.2)).drop (B - T - m)) := by
  unfold scrollG
  rw [if_pos ⟨by omega, by omega, by omega, by omega, by omega, by omega⟩]
  simp only [Int.toNat_natCast, ← hB]
  have e1 : ((P.map (·.2)).take B).drop T = R.map (·.2) := by rw [hR, List.map_drop, List.map_take]
  rw [e1, List.length_map, hRl, ← hm]
 rw [hsc] at q
 have hreg : opSem (.sliceL 1 (.const (.slice (some ⟨rb, 0, sp⟩) P.length cap)) (some (.const (.int .i64 (T : Int)))) (some (.const (.int .i64 (B : Int)))) (some (.const (.int .i64 (B : Int))))) [] M2 = some (.slice (some ⟨rb, 0 + T * 1, some 0⟩) (B - T) (B - T), M2) := by
  have hcap := h1.cap
  have hb : bounds P.length cap (some (.int .i64 (T : Int))) (some (.int .i64 (B : Int))) (some (.int .i64 (B : Int))) = some (T, B, B) := by
   simp only [bounds, optBound, boundV]
   rw [if_pos ⟨by omega, by omega⟩]
   simp only [Option.bind_some, Int.toNat_natCast]
   rw [if_pos ⟨by omega, by omega⟩]
   simp only [Option.bind_some]
   rw [if_pos ⟨by omega, by omega⟩]
   simp
  simp only [opSem, ev, Option.map_some, hb, Option.bind_some, sliceV, Option.isSome_some]
  rw [if_neg (by intro hc; omega), if_neg (by omega)]; rfl
 have hregS : ∀ {N : Mem}, Ext M2 N → Sl N (.slice (some ⟨rb, 0 + T * 1, some 0⟩) (B - T) (B - T)) R.row := fun {N} eN => by
  refine ⟨_, B - T, by rw [hRr, hRl], by rw [hRr, hRl]; exact Nat.le_refl _, .inr ⟨rb, 0 + T * 1, some 0, rfl, ?_, trivial⟩⟩
  obtain ⟨a', c', he, _, hh⟩ := (h1.ext eN).slN
  have he := (Value.slice.inj he).1
  subst he
  rcases hh with hh | ⟨b', off', sp', h3, h4, _⟩
  ·have := congrArg List.length hh; have hPr : P.row.length = P.length := by simp
   rw [hPr] at this; simp only [List.length_nil] at this; omega
  ·cases h3
   have hPr : P.row.length = P.length := by simp
   rw [hPr] at h4
   have h4 : N.loadN rb 0 (P.length * 1) = some (flat P.row) := h4
   have h5 := loadN_sub h4 (f := T * 1) (m := (B - T) * 1) (by omega)
   have t1 : (flat P.row).drop (T * 1) = flat (P.row.drop T) := flat_drop P.row T
   have t2 : (flat (P.row.drop T)).take ((B - T) * 1) = flat ((P.row.drop T).take (B - T)) := flat_take (P.row.drop T) (B - T)
   have t3 : (P.row.drop T).take (B - T) = R.row := by
    rw [hR, ← List.drop_take]; simp only [Parts.row, List.map_drop, List.map_take]
   rw [t1, t2, t3] at h5
   rw [hRr, hRl]
   exact h5
 refine grid_Grid_scroll_c0_wp (g_rows h1.gb fun _ _ => step_add (by omega) (by omega) (step_add (by omega) (by omega) ⟨_, by rw [hB1]; exact hreg, step_len (step_min ?_)⟩))
 have hmin : min n ((B - T : Nat) : Int) = (m : Int) := by omega
 rw [hmin]
 have hb1r : b1 ≠ rb := by have := hf.2.2.2.2.2.2.2.2.1; omega
 have new0 : ∀ {N : Mem}, Ext M2 N → ∀ p ∈ R, New 42 M₀ N p.1 p.2 := fun eN p hp => (h1.rows p (hRin p hp)).ext eN
 have fresh : ∀ {K : Value → Mem → Prop}, (∀ M7 r (PF : Parts), Ext M2 M7 → Sl M7 r PF.row → (∀ p ∈ PF, New 42 M₀ M7 p.1 p.2) → PF.map (·.2) = List.replicate m (List.replicate C z) → K r M7) → W funs known (.func (.func n_grid_blanks) #[] #[]) [.int .i64 (m : Int), .int .i64 (C : Int), z.val] M2 K := fun {K} k => by
  refine blanks_W (e2.ok hM) (by omega) (by omega) fun M7 r e7 n7 => ?_
  rw [Int.toNat_natCast, Int.toNat_natCast] at n7
  obtain ⟨PF, f1, f2, f3⟩ := n7.new fun L hL h0 => by
   rw [(List.mem_replicate.1 hL).2] at h0
   have := congrArg List.length h0
   simp at this; omega
  exact k M7 r PF e7 f1 (fun p hp => (f2 p hp).old (e.trans e2)) f3
 have lenF : ∀ {PF : Parts}, PF.map (·.2) = List.replicate m (List.replicate C z) → PF.length = m := fun h => by have := congrArg List.length h; simpa using this
 have colF : ∀ {PF : Parts}, PF.map (·.2) = List.replicate m (List.replicate C z) → ∀ p ∈ PF, p.2.length = C := fun {PF} h p hp => by
  have : p.2 ∈ PF.map (·.2) := List.mem_map_of_mem hp
  rw [h] at this; rw [(List.mem_replicate.1 this).2, List.length_replicate]
 have colR : ∀ p ∈ R, p.2.length = C := fun p hp => h1.cols p (hRin p hp)
 cases up with
 | true =>
  refine ⟨_, rfl, wpIf.ff (grid_Grid_scroll_c1_wp (sl_to (hregS (Ext.refl _)) (by omega) (by rw [hRr, hRl]; omega) fun v1 s1 => sl_from (hregS (Ext.refl _)) (by omega) (by rw [hRr, hRl]; omega) fun v2 s2' => g_cols h1.gb fun _ _ => fresh fun M7 r6 PF e7 f1 f2 f3 => ⟨e7.keep _, ?_⟩))⟩
  rw [Int.toNat_natCast] at s1 s2'
  have hl := lenF f3
  have hD : R.row.drop m = Parts.row (R.drop m) := by simp only [Parts.row, List.map_drop]
  have hTk : R.row.take m = Parts.row (R.take m) := by simp only [Parts.row, List.map_take]
  rw [hTk] at s1
  rw [hD] at s2'
  refine concat2_W (bs := [b1]) (e7.ok (e2.ok hM)) (s2'.ext e7) f1 (by rw [List.length_drop]; omega) ?_
  refine fun _ M11 r10 e11 s11 _ => ⟨_, rfl, wpIf.ff ?_⟩
  have e211 := e7.trans e11
  have s1' := s1.ext e211
  refine step_lenS s1' ?_
  have hTl : (Parts.row (R.take m)).length = (R.take m).length := by simp
  refine scroll_tail (e.trans (e2.trans e211)) hb0 (h1.ext e211) (b1 := b1) (by have := e211.size; omega) hb1r (W := R.take m) (fun p hp => hRin p (List.mem_of_mem_take hp)) (by rw [List.length_take]; omega) s1' hTB hBn (N := R.drop m ++ PF) s11 (by rw [List.length_append, List.length_drop]; omega) (fun p hp => ?_) (fun p hp => ?_) (z := z) (by rw [hTl]) rfl fun v M' tM hM' rM gM => ?_
  ·rcases List.mem_append.1 hp with hp | hp
   ·exact new0 e211 p (List.mem_of_mem_drop hp)
   ·exact (f2 p hp).ext e11
  ·rcases List.mem_append.1 hp with hp | hp
   ·exact colR p (List.mem_of_mem_drop hp)
   ·exact colF f3 p hp
  ·rw [List.map_take] at gM
   have l1 := Mem.lt_of_get (h1.ext e211).gb
   have l2 := Mem.lt_of_get (h1.ext e211).gr
   refine q v M' (((e2.trans e211).touch _).trans tM) ⟨gM.old (e2.trans e211), M11, (e2.trans e211).size, gM, fun N tN => ⟨_, _, _, _, hM'.away l1 l2 rM tN, ?_⟩⟩
   simp only [if_true, List.map_append, List.map_take, List.map_drop, f3]
 | false =>
  refine ⟨_, rfl, wpIf.tt (step_len (step_sub (by omega) (by omega) ?_))⟩
  have hcut : ((B - T : Nat) : Int) - (m : Int) = ((B - T - m : Nat) : Int) := by omega
  rw [hcut]
  refine grid_Grid_scroll_c1_wp (sl_to (hregS (Ext.refl _)) (by omega) (by rw [hRr, hRl]; omega) fun v1 s1 => sl_from (hregS (Ext.refl _)) (by omega) (by rw [hRr, hRl]; omega) fun v2 s2' => g_cols h1.gb fun _ _ => fresh fun M7 r6 PF e7 f1 f2 f3 => ⟨e7.keep _, ?_⟩)
  rw [Int.toNat_natCast] at s1 s2'
  have hl := lenF f3
  have hD : R.row.drop (B - T - m) = Parts.row (R.drop (B - T - m)) := by simp only [Parts.row, List.map_drop]
  have hTk : R.row.take (B - T - m) = Parts.row (R.take (B - T - m)) := by simp only [Parts.row, List.map_take]
  rw [hTk] at s1
  rw [hD] at s2'
  refine concat2_W (bs := [b1]) (e7.ok (e2.ok hM)) (s2'.ext e7) f1 (by rw [List.length_drop]; omega) ?_
  refine fun _ M11 r10 e11 _ _ => ⟨_, rfl, wpIf.tt ?_⟩
  have e211 := e7.trans e11
  refine concat2_W (bs := [b1]) (e211.ok (e2.ok hM)) (f1.ext e11) (s1.ext e211) (by rw [List.length_take]; omega) ?_
  refine fun _ M16 r15 e16 s16 _ => ?_
  have e216 := e211.trans e16
  have s2'' := s2'.ext e216
  refine step_lenS s2'' ?_
  have hTl : (Parts.row (R.drop (B - T - m))).length = (R.drop (B - T - m)).length := by simp
  refine scroll_tail (e.trans (e2.trans e216)) hb0 (h1.ext e216) (b1 := b1) (by have := e216.size; omega) hb1r (W := R.drop (B - T - m)) (fun p hp => hRin p (List.mem_of_mem_drop hp)) (by rw [List.length_drop]; omega) s2'' hTB hBn (N := PF ++ R.take (B - T - m)) s16 (by rw [List.length_append, List.length_take]; omega) (fun p hp => ?_) (fun p hp => ?_) (z := z) (by rw [hTl]) rfl fun v M' tM hM' rM gM => ?_
  ·rcases List.mem_append.1 hp with hp | hp
   ·exact (f2 p hp).ext (e11.trans e16)
   ·exact new0 e216 p (List.mem_of_mem_take hp)
  ·rcases List.mem_append.1 hp with hp | hp
   ·exact colF f3 p hp
   ·exact colR p (List.mem_of_mem_take hp)
  ·rw [List.map_drop] at gM
   have l1 := Mem.lt_of_get (h1.ext e216).gb
   have l2 := Mem.lt_of_get (h1.ext e216).gr
   refine q v M' (((e2.trans e216).touch _).trans tM) ⟨gM.old (e2.trans e216), M16, (e2.trans e216).size, gM, fun N tN => ⟨_, _, _, _, hM'.away l1 l2 rM tN, ?_⟩⟩
   simp only [Bool.false_eq_true, if_false, List.map_append, List.map_take, List.map_drop, f3]
end
end Go.Proofs.Ytifemfnjoobiiaa.Run
