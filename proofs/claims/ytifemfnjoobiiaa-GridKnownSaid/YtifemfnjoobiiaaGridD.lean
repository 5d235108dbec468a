/- Copies of grids, and whether two are alike. -/
import Derived.Test.YtifemfnjoobiiaaScroll
import Derived.Test.YtifemfnjoobiiaaRowD
namespace Go.Proofs.Ytifemfnjoobiiaa.Run
open Go Go.RowKit
set_option linter.unusedVariables false
set_option linter.unusedSimpArgs false
section
variable {M₀ M : Mem} {b rb C : Nat} {G : Gd} {Q : Value → Mem → Prop}
abbrev allV (bx : Nat) : Value := .func (.func n_grid_Grid_all_1) #[] #[.pointer (some ⟨bx, 0, none⟩)]
theorem all_W (hM : M.base ≤ M.size) {a : Option Addr} (q : ∀ M' bx, Ext M M' → M'.get bx = some (.cells [.pointer a] 31 true) → M.size ≤ bx → bx < M'.size → Q (allV bx) M') : W funs known (.func (.func n_grid_Grid_all) #[] #[]) [.pointer a] M Q := by
 refine grid_Grid_all_wp hM ⟨rfl, fun b1 M2 hb1 hM2 => ?_⟩
 have e2 : Ext M M2 := Ext.push' hM2
 have s2 : M2.size = M.size + 1 := by rw [hM2]; rfl
 exact q M2 b1 e2 (by rw [hM2, Mem.get_push, if_pos hb1]) (by omega) (by omega)
def itemsP (P : Parts) : List (List Value) := P.mapIdx fun i p => [.int .i64 (i : Nat), p.1]
theorem itemsP_len (P : Parts) : (itemsP P).length = P.length := by simp [itemsP]
theorem itemsP_get (P : Parts) (i : Nat) : (itemsP P)[i]? = (P[i]?).map fun p => [.int .i64 (i : Nat), p.1] := by unfold itemsP; rw [List.getElem?_mapIdx]
structure Rd (bx b rb : Nat) (rv : Value) (P : Parts) (i : Nat) (N : Mem) : Prop where
 box : i = 0 → N.get bx = some (.cells [.pointer (some ⟨b, 0, none⟩)] 31 true) ∧ ∃ cv, N.get b = some (.cells [rv, cv] 95 true)
 row : ∀ k p, i ≤ k → P[k]? = some p → N.load1 rb (0 + k * 1) = some p.1
abbrev alI (y : Value) (P : Parts) (rv : Value) (n0 : Nat) (b0 : Nat) (I : Nat → List Nat → Mem → Prop) : Nat → LS → Prop := fun k s => ∃ (i : Nat) (N : Mem) (B : List Nat), s = grid_Grid_all_1_l0_s y rv (.int .i64 P.length) (.int .i64 i) [] N ∧ I i B N ∧ N.base = b0 ∧ n0 ≤ N.size ∧ i ≤ P.length ∧ k = P.length - i
theorem all_iter {M1 : Mem} {bx : Nat} {sp : Option Nat} {cap : Nat} (P : Parts) (hPn : P.length ≤ 512) : IterR funs known (allV bx) [] (Rd bx b rb (.slice (some ⟨rb, 0, sp⟩) P.length cap) P) M1 (itemsP P) := by
 intro y I Stop M0 hb e1 Y hr i0
 have r0 := hr 0 [] M0 i0
 obtain ⟨g1, cv, g2⟩ := r0.box rfl
 generalize hrv : Value.slice (some ⟨rb, 0, sp⟩) P.length cap = rv at hr r0 g2
 refine grid_Grid_all_1_wp hb (pt_ld g1 rfl ⟨.bool false, rfl, wpIf.ff (pt_ld g1 rfl (g_rows g2 fun _ _ => ?_))⟩)
 rw [← hrv]
 refine step_len ?_
 rw [hrv]
 refine ⟨grid_Grid_all_1_l0_m, alI y P rv M0.size M0.base I, ⟨P.length, 0, M0, [], rfl, i0, rfl, Nat.le_refl _, Nat.zero_le _, rfl⟩, ?_⟩
 rintro k s ⟨i, N, B, rfl, iN, bN, sN, hi, rfl⟩
 refine grid_Grid_all_1_l0_wp (I := alI y P rv M0.size M0.base I) (step_lss (wpIf.dec (fun g3 => ?_) (fun g3 => ?_)))
 ·obtain ⟨p, hp⟩ : ∃ p, P[i]? = some p := ⟨_, List.getElem?_eq_getElem (by omega)⟩
  have hld := (hr i B N iN).row i p (Nat.le_refl _) hp
  have hx : (itemsP P)[i]? = some [.int .i64 (i : Nat), p.1] := by rw [itemsP_get, hp]; rfl
  refine ⟨.pointer (some ⟨rb, 0 + i * 1, none⟩), ?_, p.1, ?_, (Y.call _ _ B N hx iN sN (by omega)).mono ?_⟩
  ·rw [← hrv]
   simp only [opSem, ev]
   rw [if_pos ⟨by omega, by omega⟩, Int.toNat_natCast]
  ·simp only [opSem, ev, hld, Option.map_some]
  ·rintro r N' ⟨p1, p2, B'', p3, p4, p5⟩
   rcases p5 with ⟨rfl, p5⟩ | ⟨rfl, p5⟩
   ·exact ⟨_, rfl, wpIf.ff (step_add (by omega) (by omega) ⟨P.length - (i + 1), by omega, i + 1, N', B'', rfl, p5, by omega, by omega, by omega, rfl⟩)⟩
   ·refine ⟨_, rfl, wpIf.tt ?_⟩
    have done : N'.base = M0.base ∧ M0.size ≤ N'.size ∧ ∃ B, I (itemsP P).length B N' ∨ Stop B N' := ⟨by omega, by omega, B'', .inr p5⟩
    exact done
 ·have : i = P.length := by omega
  subst this
  refine blockK.hit ?_
  have done : N.base = M0.base ∧ M0.size ≤ N.size ∧ ∃ B, I (itemsP P).length B N ∨ Stop B N := ⟨bN, sN, B, .inl (by rw [itemsP_len]; exact iN)⟩
  exact done
structure Rj (S : Mem) (rb : Nat) (P : Parts) (rest : List Value) (f : List Ce → List Ce) (i : Nat) (B : List Nat) (N : Mem) : Prop where
 t : Chr rb S N
 rw : ∃ P' : Parts, N.get rb = some (.cells (flat P'.row ++ rest) 26 true) ∧ P'.length = P.length ∧ (∀ k p, P[k]? = some p → i ≤ k → P'[k]? = some p) ∧
  (∀ k p, P[k]? = some p → k < i → ∃ x c, P'[k]? = some (x, f p.2) ∧ New 42 S N x (f p.2) ∧ blk x = some c ∧ c ∈ B)
 bl : ∀ c ∈ B, S.size + 2 ≤ c ∧ c < N.size
variable {S N N' : Mem} {P : Parts} {rest : List Value} {f : List Ce → List Ce} {i : Nat} {B : List Nat}
theorem Rj.zero (h : S.get rb = some (.cells (flat P.row ++ rest) 26 true)) : Rj S rb P rest f 0 [] S :=
 ⟨Touch.refl _ _, ⟨P, h, rfl, fun k p hp _ => hp, fun k p _ hk => absurd hk (by omega)⟩, by simp⟩
theorem New.blk_keep {α : Type} [Enc α] {ty : TypeId} {v : Value} {L : List α} {c : Nat} (h : New ty S N v L) (hc : blk v = some c) (k : N'.get c = N.get c) : New ty S N' v L := by
 obtain ⟨b', sp, rfl, g, hlt⟩ := h
 cases hc
 exact ⟨b', sp, rfl, k.trans g, hlt⟩
theorem Rj.keep (hrb : rb < S.size) (h : Rj S rb P rest f i B N) (k : Keep S.size [] B N N') : Rj S rb P rest f i B N' := by
 obtain ⟨t, ⟨P', h1, h2, h3, h4⟩, h5⟩ := h
 have ks : ∀ c, c < S.size → N'.get c = N.get c := fun c hc => k.get c (.inl ⟨hc, by simp⟩)
 refine ⟨⟨k.base.trans t.base, Nat.le_trans t.size k.size, fun c hc hp => (ks c hc).trans (t.get c hc hp)⟩, ⟨P', (ks rb hrb).trans h1, h2, h3, fun j p hp hj => ?_⟩, fun c hc => ⟨(h5 c hc).1, by have := (h5 c hc).2; have := k.size; omega⟩⟩
 obtain ⟨x, c, a1, a2, a3, a4⟩ := h4 j p hp hj
 exact ⟨x, c, a1, a2.blk_keep a3 (k.get c (.inr a4)), a3, a4⟩
theorem row_load {P' : Parts} {k : Nat} {p : Value × List Ce} (h : N.get rb = some (.cells (flat P'.row ++ rest) 26 true)) (hp : P'[k]? = some p) : N.load1 rb (0 + k * 1) = some p.1 := by
 have hk := (List.getElem?_eq_some_iff.1 hp).1
 simp only [Mem.load1, h]
 rw [List.getElem?_append_left (by rw [flat_row, List.length_map]; omega), flat_row, List.getElem?_map, Nat.zero_add, Nat.mul_one, hp]; rfl
theorem Rj.read (h : Rj S rb P rest f i B N) {k : Nat} {p : Value × List Ce} (hk : i ≤ k) (hp : P[k]? = some p) : N.load1 rb (0 + k * 1) = some p.1 := by
 obtain ⟨t, ⟨P', h1, h2, h3, h4⟩, h5⟩ := h
 exact row_load h1 (h3 k p hp hk)
theorem Rj.set (hrb : rb < S.size) (hw : S.base ≤ rb) (h : Rj S rb P rest f i B N) {p : Value × List Ce} (hp : P[i]? = some p) {x : Value} {c : Nat} (hx : New 42 S N x (f p.2)) (hc : blk x = some c) (hc2 : S.size + 2 ≤ c) {sp : Option Nat} {cap : Nat} {j : IntKind} {Pr : Value → Value → Mem → Prop}
  (q : ∀ a u N', Chr rb N N' → N'.size = N.size → Rj S rb P rest f (i + 1) (B ++ [c]) N' → Pr a u N') :
  ∃ a, opSem (.addrL 1 (.const (.slice (some ⟨rb, 0, sp⟩) P.length cap)) (.const (.int j (i : Int)))) [] N = some (a, N) ∧ ∃ u N', opSem (.store 1 (.const a) (.const x)) [] N = some (u, N') ∧ Pr a u N' := by
 have hi := (List.getElem?_eq_some_iff.1 hp).1
 obtain ⟨t, ⟨P', h1, h2, h3, h4⟩, h5⟩ := h
 refine ⟨.pointer (some ⟨rb, 0 + i * 1, none⟩), ?_, ?_⟩
 ·simp only [opSem, ev]
  rw [if_pos ⟨by omega, by omega⟩, Int.toNat_natCast]
 ·have hl : (flat P'.row).length = P'.length := by rw [flat_row, List.length_map]
  have hbs := Mem.lt_of_get h1
  have hset : (flat P'.row ++ rest).set (0 + i * 1) x = flat (Parts.row (P'.set i (x, f p.2))) ++ rest := by
   rw [List.set_append_left _ _ (by omega), flat_row, flat_row, List.map_set, Nat.zero_add, Nat.mul_one]
  have tb := t.base
  refine pt_st h1 (by omega) (by rw [List.length_append]; omega) hx.cells1.1 hx.cells1.2.2 fun u N' hN' => ?_
  rw [hset] at hN'
  have t' : Chr rb N N' := by subst hN'; exact Touch.set (p := fun c => c = rb) (Touch.refl _ N) rfl hbs _
  have sz : N'.size = N.size := by rw [hN']; rfl
  have clt : c < N.size := by
   obtain ⟨b', sp', rfl, g, _⟩ := hx
   cases hc; exact Mem.lt_of_get g
  refine q _ u N' t' sz ⟨t.trans t', ⟨P'.set i (x, f p.2), ?_, by rw [List.length_set]; exact h2, fun k p' hp' hk => ?_, fun k p' hp' hk => ?_⟩, fun c' hc' => ?_⟩
  ·rw [hN', Mem.get_set _ _ _ hbs, if_pos rfl]
  ·rw [List.getElem?_set_ne (by omega)]; exact h3 k p' hp' (by omega)
  ·by_cases hki : k = i
   ·subst hki
    rw [hp] at hp'; cases hp'
    exact ⟨x, c, by rw [List.getElem?_set_self (by omega)], hx.blk_keep hc (t'.get c clt (by omega)), hc, by simp⟩
   ·obtain ⟨x', c', a1, a2, a3, a4⟩ := h4 k p' hp' (by omega)
    have := h5 c' a4
    exact ⟨x', c', by rw [List.getElem?_set_ne (by omega)]; exact a1, a2.blk_keep a3 (t'.get c' this.2 (by omega)), a3, List.mem_append_left _ a4⟩
  ·rw [sz]
   rcases List.mem_append.1 hc' with hc' | hc'
   ·exact h5 c' hc'
   ·rw [List.mem_singleton] at hc'; subst hc'; exact ⟨hc2, clt⟩
theorem Rj.all (h : Rj S rb P rest f P.length B N) : ∃ P' : Parts, N.get rb = some (.cells (flat P'.row ++ rest) 26 true) ∧ P'.map (·.2) = (P.map (·.2)).map f ∧ (∀ p ∈ P', New 42 S N p.1 p.2) := by
 obtain ⟨t, ⟨P', h1, h2, h3, h4⟩, h5⟩ := h
 have hk : ∀ (k : Nat) (p : Value × List Ce), P[k]? = some p → ∃ x, P'[k]? = some (x, f p.2) ∧ New 42 S N x (f p.2) := fun k p hp => by
  obtain ⟨x, c, a1, a2, _⟩ := h4 k p hp (List.getElem?_eq_some_iff.1 hp).1
  exact ⟨x, a1, a2⟩
 refine ⟨P', h1, ?_, fun p hp => ?_⟩
 ·refine List.ext_getElem? fun k => ?_
  rw [List.getElem?_map, List.getElem?_map, List.getElem?_map]
  cases hp : P[k]? with
  | none => rw [List.getElem?_eq_none (by have := List.getElem?_eq_none_iff.1 hp; omega)]; rfl
  | some p => obtain ⟨x, a1, _⟩ := hk k p hp; rw [a1]; rfl
 ·obtain ⟨k, hk'⟩ := List.mem_iff_getElem?.1 hp
  obtain ⟨p0, hp0⟩ : ∃ p0, P[k]? = some p0 := ⟨_, List.getElem?_eq_getElem (by have := (List.getElem?_eq_some_iff.1 hk').1; omega)⟩
  obtain ⟨x, a1, a2⟩ := hk k p0 hp0
  rw [hk'] at a1; cases a1; exact a2
def raiseG (G : Gd) (l : Int) : Gd := G.map fun L => L.map (Ce.raise l)
set_option maxHeartbeats 1000000 in
theorem graise_W (e : Ext M₀ M) (hb0 : M₀.base ≤ M₀.size) (h : Gp M₀ M b rb C G) {l : Int} (q : ∀ M', Chr rb M M' → Gp M₀ M' b rb C (raiseG G l) → Q (.tuple #[]) M') :
  W funs known (.func (.func n_grid_Grid_Raise) #[] #[]) [.pointer (some ⟨b, 0, none⟩), .int .u8 l] M Q := by
 have hM := e.ok hb0
 have hf := h.facts
 refine grid_Grid_Raise_wp hM ⟨rfl, fun b1 M2 hb1 hM2 => ⟨rfl, fun b3 M4 hb3 hM4 => ?_⟩⟩
 have e2 : Ext M M2 := Ext.push' hM2
 have s2 : M2.size = M.size + 1 := by rw [hM2]; rfl
 have e4 : Ext M M4 := e2.trans (Ext.push' hM4)
 have s4 : M4.size = M2.size + 1 := by rw [hM4]; rfl
 refine all_W (e4.ok hM) fun M6 bx e46 gbx bx1 bx2 => ⟨e46.keep _, ?_⟩
 have e6 := e4.trans e46
 have h6' := h.ext e6
 obtain ⟨P, sp, cap, rest, h6, rfl⟩ := h6'
 have ebase := (e.trans e6).base
 have hrb6 : rb < M6.size := Mem.lt_of_get h6.gr
 have hb6 : b < M6.size := Mem.lt_of_get h6.gb
 have hw6 : M6.base ≤ rb := by have := h6.hr; omega
 have hsz := e46.size
 have hbk : ∀ y, y ∈ [b1, b3] → y < M6.size ∧ y ≠ rb := fun y hy => by
  simp only [List.mem_cons, List.not_mem_nil, or_false] at hy
  have := hf.2.2.2.2.2.2.2.2.1
  omega
 refine range_R (X := []) (R := Rd bx b rb (.slice (some ⟨rb, 0, sp⟩) P.length cap) P) (M1 := M6) (items := itemsP P) (g := n_grid_Grid_all_1) (first := #[]) (cap := #[.pointer (some ⟨bx, 0, none⟩)]) (Y0 := [rb])
  (J := fun n B K N => K = [⟨b1, [.pointer (some ⟨b, 0, none⟩)], 31⟩, ⟨b3, [.int .u8 l], 40⟩] ∧ Rj M6 rb P rest (fun L => L.map (Ce.raise l)) n B N) (Z := fun _ _ _ _ => False) ?hf ?it ?e1 ?hX ?hY ?len ?Jm ?Zm ?Jr ?Jb ?Zb ?Js ?Zs ?J0 ?body ?done ?zdone
 case hf => rfl
 case it => exact all_iter P h6.n2
 case e1 => exact Ext.refl _
 case hX => intro b hb; cases hb
 case hY => intro x hx; rw [List.mem_singleton] at hx; subst hx; exact ⟨hrb6, by simp⟩
 case len =>
  intro x hx
  obtain ⟨j, hj⟩ := List.mem_iff_getElem?.1 hx
  rw [itemsP_get] at hj
  obtain ⟨p, _, rfl⟩ := Option.map_eq_some_iff.1 hj
  rfl
 case Jm => exact fun n B K N N' h hk => ⟨h.1, h.2.keep hrb6 hk⟩
 case Zm => exact fun _ _ _ _ _ h _ => h.elim
 case Jr =>
  rintro n B K N ⟨rfl, h⟩
  refine ⟨fun _ => ⟨?_, .int .i64 C, ?_⟩, fun k p hk hp => h.read hk hp⟩
  ·rw [h.t.get bx bx2 (by omega)]; exact gbx
  ·rw [h.t.get b hb6 h6.ne]; exact h6.gb
 case Jb => exact fun _ _ _ _ h => h.2.bl
 case Zb => exact fun _ _ _ _ h => h.elim
 case Js => intro _ _ _ _ h; rw [h.1] <;> rfl
 case Zs => exact fun _ _ _ _ h => h.elim
 case J0 => exact ⟨rfl, Rj.zero h6.gr⟩
 case zdone => exact fun _ _ _ _ h => h.elim
 case body =>
  rintro n x B K N hx ⟨rfl, h⟩ bN zN kN
  rw [itemsP_get] at hx
  obtain ⟨p, hp, rfl⟩ := Option.map_eq_some_iff.1 hx
  have zN : M6.size + 2 ≤ N.size := zN
  have hpN := h6.rows p (List.mem_of_getElem? hp)
  have hpc := h6.cols p (List.mem_of_getElem? hp)
  refine grid_Grid_Raise_a0_body ⟨rfl, rfl, fun N1 hag => ?_⟩
  have hag : Agree (M6.size + 1) N N1 := hag
  have a1 := hag.size
  have a2 := hag.base
  have h1 : Rj M6 rb P rest (fun L => L.map (Ce.raise l)) n B N1 := h.keep hrb6 ⟨hag.base, Nat.le_of_eq hag.size.symm, fun c hc => hag.get c (by rcases hc with hc | hc; exact (by omega); exact (by have := h.bl c hc; omega))⟩
  have gb1 : N1.get b = some (.cells [.slice (some ⟨rb, 0, sp⟩) P.length cap, .int .i64 C] 95 true) := by rw [h1.t.get b hb6 h6.ne]; exact h6.gb
  have hp1 : New 42 M₀ N1 p.1 p.2 := hpN.touch h1.t fun c hc => h6.kinds c (.inr hc)
  refine g_rows gb1 fun _ _ => ?_
  refine raise_W (freeze_ok N1) hp1.sl.freeze (by rw [hpc]; have := h6.c2; omega) fun M7 v e6x n7 => ?_
  have e6' := e6x.thaw
  have sz6 := e6'.size
  have n6' : New 42 N1 (M7.thaw N1.base) v ((fun L => L.map (Ce.raise l)) p.2) := n7
  generalize M7.thaw N1.base = R7 at e6' sz6 n6' ⊢
  obtain ⟨cb, sp', hv, gv, hlt⟩ := n6'
  have h2 := h1.keep (N' := R7) hrb6 ⟨e6'.base, e6'.size, fun c hc => e6'.get c (by rcases hc with hc | hc; exact (by omega); exact (by have := h1.bl c hc; omega))⟩
  refine ⟨e6x.keepF _, h2.set hrb6 hw6 hp (x := v) (c := cb) ⟨cb, sp', hv, gv, by omega⟩ (by rw [hv]; rfl) (by omega) fun _ u N9 t9 s9 h9 => ⟨fun y hy hs => t9.get y hs (hbk y hy).2, ?_, ⟨by have := t9.base; have := e6'.base; show N9.base = N.base; omega, by show N.size ≤ N9.size; omega, fun y hy hno => ?_⟩, B ++ [cb], fun y hy => ?_, .inl ⟨rfl, rfl, h9⟩⟩⟩
  ·show N9.get (M6.size + 1) = N1.get (M6.size + 1)
   rw [t9.get _ (by omega) (by omega), e6'.get _ (by omega)]
  ·have hno : ¬ (y = M6.size + 1 ∨ _ ∨ y ∈ [rb] ∨ y ∈ B) := hno
   simp only [List.mem_singleton, not_or] at hno
   show N9.get y = N.get y
   rw [t9.get y (by omega) hno.2.2.1, e6'.get y (by omega), hag.get y hno.1]
  ·rcases List.mem_append.1 hy with hy | hy
   ·exact ⟨.inl hy, by have := h1.bl y hy; show y < N9.size; omega⟩
   ·rw [List.mem_singleton] at hy; subst hy
    have := Mem.lt_of_get gv
    exact ⟨.inr (by omega), by show y < N9.size; omega⟩
 case done =>
  rintro B K N ⟨rfl, h⟩ bN zN gd
  rw [itemsP_len] at h
  have zN : M6.size + 2 ≤ N.size := zN
  have gd : N.get M6.size = some .dblk := gd
  obtain ⟨P', k1, k2, k3⟩ := h.all
  have tN := h.t
  have gbN : N.get b = some (.cells [.slice (some ⟨rb, 0, sp⟩) P.length cap, .int .i64 C] 95 true) := by rw [tN.get b hb6 h6.ne]; exact h6.gb
  have hPl : P'.length = P.length := by have := congrArg List.length k2; simpa using this
  refine grid_Grid_Raise_a0_out ?_
  obtain ⟨N', d1, d2, d3, d4⟩ := kill_ok [M6.size] N (fun d hd => by
   rw [List.mem_singleton] at hd; subst hd
   have := tN.base
   exact ⟨by omega, gd⟩) (by simp)
  refine (retK_ds ⟨N', d1, ?_⟩).1
  have eK : ∀ c, c ≠ M6.size → N'.get c = N.get c := fun c hc => d4 c (by simpa using hc)
  refine q N' ⟨by have := tN.base; have := e6.base; omega, by have := e6.size; omega, fun c hc hne => ?_⟩ ⟨P', sp, cap, rest, { h6 with gb := ?_, gr := ?_, cap := by rw [hPl]; exact h6.cap, rows := fun p hp => ?_, cols := fun p hp => ?_, n1 := by rw [hPl]; exact h6.n1, n2 := by rw [hPl]; exact h6.n2 }, k2⟩
  ·have := e6.size
   rw [eK c (by omega), tN.get c (by omega) hne, e6.get c hc]
  ·rw [eK b (by omega), hPl]; exact gbN
  ·rw [eK rb (by omega)]; exact k1
  ·obtain ⟨cb, sp', hv, gv, hlt⟩ := k3 p hp
   exact (New.old (e.trans e6) ⟨cb, sp', hv, (eK cb (fun hc => by rw [hc, gd] at gv; cases gv)).trans gv, hlt⟩)
  ·have : p.2 ∈ P'.map (·.2) := List.mem_map_of_mem hp
   rw [k2] at this
   obtain ⟨L, hL, hLe⟩ := List.mem_map.1 this
   rw [← hLe, List.length_map]
   obtain ⟨p0, hp0, rfl⟩ := List.mem_map.1 hL
   exact h6.cols p0 hp0
def resizeG (G : Gd) (r c : Nat) (z : Ce) : Gd := (G.map fun L => resizeF L c z).take r ++ List.replicate (r - G.length) (List.replicate c z)
theorem app_rows {N : Mem} {rb k : Nat} {P' PF : Parts} {rest : List Value} {fv : Value} (hk : k ≤ P'.length) (hkn : PF.length ≤ 2 ^ 20) (hk2 : P'.length ≤ 2 ^ 20) (g : N.get rb = some (.cells (flat P'.row ++ rest) 26 true)) (hf : Sl N fv PF.row) {Pr : Value → Mem → Prop}
  (q0 : PF = [] → Pr (.slice (some ⟨rb, 0, some 0⟩) k k) N) (q : PF ≠ [] → ∀ N' nb, Ext N N' → nb = N.size → nb < N'.size → N'.get nb = some (.cells (flat (Parts.row (P'.take k ++ PF))) 26 true) → Pr (.slice (some ⟨nb, 0, none⟩) (k + PF.length) (k + PF.length)) N') :
  ∃ v N', opSemQ (.append 26 24 1 false (.const (.slice (some ⟨rb, 0, some 0⟩) k k)) (.const fv)) N = some (v, N') ∧ Pr v N' := by
 obtain ⟨l1, l2, l3⟩ := hf.src
 have hl : PF.row.length = PF.length := by simp
 have l1 : lenV fv = some PF.length := by rw [← hl]; exact l1
 by_cases h0 : PF = []
 ·refine ⟨_, N, opSemQ_app ?_, q0 h0⟩
  rw [h0] at l1
  simp only [opSem, ev, l2, if_true, appendV, l1, List.length_nil]
 ·have hne : PF.row ≠ [] := fun h => h0 (by have := congrArg List.length h; rw [hl] at this; exact List.length_eq_zero_iff.1 this)
  have h0' : PF.length ≠ 0 := fun h => h0 (List.length_eq_zero_iff.1 h)
  have l3 : srcOf N 1 fv PF.length = some (flat PF.row) := by have := l3 hne; rw [hl] at this; exact this
  have hfl : ∀ A : Parts, (flat A.row).length = A.length := fun A => by rw [flat_row, List.length_map]
  have hold : N.loadN rb 0 (k * 1) = some (flat (Parts.row (P'.take k))) := by
   simp only [Mem.loadN, g]
   rw [if_pos (by rw [List.length_append, hfl]; omega), List.drop_zero, List.take_append_of_le_length (by rw [hfl]; omega), flat_row, flat_row, Nat.mul_one, List.map_take]
  refine ⟨_, _, opSemQ_app (v := .slice (some ⟨N.size, 0, none⟩) (k + PF.length) (k + PF.length)) (M' := N.push (.cells (flat (Parts.row (P'.take k)) ++ flat PF.row) 26 true)) ?_, q h0 _ N.size (Ext.push _ _) rfl (by simp) ?_⟩
  ·simp only [opSem, ev, l2, if_true, appendV, l1, h0', if_false, l3]
   rw [if_pos ⟨by omega, by omega⟩, if_neg (by omega), hold]; rfl
  ·rw [Mem.get_push, if_pos rfl]
   have : flat (Parts.row (P'.take k ++ PF)) = flat (Parts.row (P'.take k)) ++ flat PF.row := by rw [flat_row, flat_row, flat_row, List.map_append]
   rw [this]
set_option maxHeartbeats 2000000 in
theorem gresize_W (e : Ext M₀ M) (hb0 : M₀.base ≤ M₀.size) (h : Gp M₀ M b rb C G) {r c : Int} {z : Ce} (q0 : mayB r c = false → ∀ M', Ext M M' → Q (.bool false) M')
  (q : mayB r c = true → ∀ M' rb', Chg b rb M M' → (rb' = rb ∨ M.size ≤ rb') → Gp M₀ M' b rb' c.toNat (resizeG G r.toNat c.toNat z) → Q (.bool true) M') :
  W funs known (.func (.func n_grid_Grid_Resize) #[] #[]) [.pointer (some ⟨b, 0, none⟩), .int .i64 r, .int .i64 c, z.val] M Q := by
 have hM := e.ok hb0
 have hf := h.facts
 refine grid_Grid_Resize_wp hM ⟨rfl, fun b1 M2 hb1 hM2 => ⟨rfl, fun b3 M4 hb3 hM4 => ⟨rfl, fun b5 M5 hb5 hM5 => ⟨.bool false, rfl, wpIf.ff ?_⟩⟩⟩⟩
 have e2 : Ext M M2 := Ext.push' hM2
 have s2 : M2.size = M.size + 1 := by rw [hM2]; rfl
 have e4 : Ext M M4 := e2.trans (Ext.push' hM4)
 have s4 : M4.size = M2.size + 1 := by rw [hM4]; rfl
 have e5 : Ext M M5 := e4.trans (Ext.push' hM5)
 have s5 : M5.size = M4.size + 1 := by rw [hM5]; rfl
 refine may_W (e5.ok hM) ⟨KeepB.refl _ _, _, rfl, ?_⟩
 cases hm : mayB r c with
 | false => exact wpIf.tt (q0 hm _ e5)
 | true =>
 have hmm : 1 ≤ r ∧ 1 ≤ c ∧ r ≤ 512 ∧ c ≤ 512 := of_decide_eq_true hm
 refine wpIf.ff (grid_Grid_Resize_c0_wp (all_W (e5.ok hM) fun M6 bx e46 gbx bx1 bx2 => ⟨e46.keep _, ?_⟩))
 have e6 := e5.trans e46
 have h6' := h.ext e6
 obtain ⟨P, sp, cap, rest, h6, rfl⟩ := h6'
 have ebase := (e.trans e6).base
 have hrb6 : rb < M6.size := Mem.lt_of_get h6.gr
 have hb6 : b < M6.size := Mem.lt_of_get h6.gb
 have hw6 : M6.base ≤ rb := by have := h6.hr; omega
 have hwb : M6.base ≤ b := by have := h6.hb; omega
 have hsz := e46.size
 have hcap := h6.cap
 have hPn1 := h6.n1
 have hPn2 := h6.n2
 have hbk : ∀ y, y ∈ [b1, b3, b5] → y < M6.size ∧ y ≠ rb := fun y hy => by
  simp only [List.mem_cons, List.not_mem_nil, or_false] at hy
  have := hf.2.2.2.2.2.2.2.2.1
  omega
 refine range_R (X := []) (R := Rd bx b rb (.slice (some ⟨rb, 0, sp⟩) P.length cap) P) (M1 := M6) (items := itemsP P) (g := n_grid_Grid_all_1) (first := #[]) (cap := #[.pointer (some ⟨bx, 0, none⟩)]) (Y0 := [rb])
  (J := fun n B K N => K = [⟨b1, [.pointer (some ⟨b, 0, none⟩)], 31⟩, ⟨b3, [.int .i64 c], 3⟩, ⟨b5, Enc.enc z, 42⟩] ∧ Rj M6 rb P rest (fun L => resizeF L c.toNat z) n B N) (Z := fun _ _ _ _ => False) ?hf ?it ?e1 ?hX ?hY ?len ?Jm ?Zm ?Jr ?Jb ?Zb ?Js ?Zs ?J0 ?body ?done ?zdone
 case hf => rfl
 case it => exact all_iter P h6.n2
 case e1 => exact Ext.refl _
 case hX => intro b hb; cases hb
 case hY => intro x hx; rw [List.mem_singleton] at hx; subst hx; exact ⟨hrb6, by simp⟩
 case len =>
  intro x hx
  obtain ⟨j, hj⟩ := List.mem_iff_getElem?.1 hx
  rw [itemsP_get] at hj
  obtain ⟨p, _, rfl⟩ := Option.map_eq_some_iff.1 hj
  rfl
 case Jm => exact fun n B K N N' h hk => ⟨h.1, h.2.keep hrb6 hk⟩
 case Zm => exact fun _ _ _ _ _ h _ => h.elim
 case Jr =>
  rintro n B K N ⟨rfl, h⟩
  refine ⟨fun _ => ⟨?_, .int .i64 C, ?_⟩, fun k p hk hp => h.read hk hp⟩
  ·rw [h.t.get bx bx2 (by omega)]; exact gbx
  ·rw [h.t.get b hb6 h6.ne]; exact h6.gb
 case Jb => exact fun _ _ _ _ h => h.2.bl
 case Zb => exact fun _ _ _ _ h => h.elim
 case Js => intro _ _ _ _ h; rw [h.1] <;> rfl
 case Zs => exact fun _ _ _ _ h => h.elim
 case J0 => exact ⟨rfl, Rj.zero h6.gr⟩
 case zdone => exact fun _ _ _ _ h => h.elim
 case body =>
  rintro n x B K N hx ⟨rfl, h⟩ bN zN kN
  rw [itemsP_get] at hx
  obtain ⟨p, hp, rfl⟩ := Option.map_eq_some_iff.1 hx
  have zN : M6.size + 2 ≤ N.size := zN
  have hpN := h6.rows p (List.mem_of_getElem? hp)
  have hpc := h6.cols p (List.mem_of_getElem? hp)
  refine grid_Grid_Resize_a2_body ⟨rfl, rfl, fun N1 hag => ?_⟩
  have hag : Agree (M6.size + 1) N N1 := hag
  have a1 := hag.size
  have a2 := hag.base
  have h1 : Rj M6 rb P rest (fun L => resizeF L c.toNat z) n B N1 := h.keep hrb6 ⟨hag.base, Nat.le_of_eq hag.size.symm, fun c hc => hag.get c (by rcases hc with hc | hc; exact (by omega); exact (by have := h.bl c hc; omega))⟩
  have gb1 : N1.get b = some (.cells [.slice (some ⟨rb, 0, sp⟩) P.length cap, .int .i64 C] 95 true) := by rw [h1.t.get b hb6 h6.ne]; exact h6.gb
  have hp1 : New 42 M₀ N1 p.1 p.2 := hpN.touch h1.t fun c hc => h6.kinds c (.inr hc)
  refine g_rows gb1 fun _ _ => ?_
  refine resize_W (freeze_ok N1) hp1.sl.freeze (by rw [hpc]; have := h6.c2; omega) (by omega) fun M7 v e6x n7 => ?_
  have e6' := e6x.thaw
  have sz6 := e6'.size
  have n6' : New 42 N1 (M7.thaw N1.base) v ((fun L => resizeF L c.toNat z) p.2) := n7
  generalize M7.thaw N1.base = R7 at e6' sz6 n6' ⊢
  obtain ⟨cb, sp', hv, gv, hlt⟩ := n6'
  have h2 := h1.keep (N' := R7) hrb6 ⟨e6'.base, e6'.size, fun c hc => e6'.get c (by rcases hc with hc | hc; exact (by omega); exact (by have := h1.bl c hc; omega))⟩
  refine ⟨e6x.keepF _, h2.set hrb6 hw6 hp (x := v) (c := cb) ⟨cb, sp', hv, gv, by omega⟩ (by rw [hv]; rfl) (by omega) fun _ u N9 t9 s9 h9 => ⟨fun y hy hs => t9.get y hs (hbk y hy).2, ?_, ⟨by have := t9.base; have := e6'.base; show N9.base = N.base; omega, by show N.size ≤ N9.size; omega, fun y hy hno => ?_⟩, B ++ [cb], fun y hy => ?_, .inl ⟨rfl, rfl, h9⟩⟩⟩
  ·show N9.get (M6.size + 1) = N1.get (M6.size + 1)
   rw [t9.get _ (by omega) (by omega), e6'.get _ (by omega)]
  ·have hno : ¬ (y = M6.size + 1 ∨ _ ∨ y ∈ [rb] ∨ y ∈ B) := hno
   simp only [List.mem_singleton, not_or] at hno
   show N9.get y = N.get y
   rw [t9.get y (by omega) hno.2.2.1, e6'.get y (by omega), hag.get y hno.1]
  ·rcases List.mem_append.1 hy with hy | hy
   ·exact ⟨.inl hy, by have := h1.bl y hy; show y < N9.size; omega⟩
   ·rw [List.mem_singleton] at hy; subst hy
    have := Mem.lt_of_get gv
    exact ⟨.inr (by omega), by show y < N9.size; omega⟩
 case done =>
  rintro B K N ⟨rfl, h⟩ bN zN gd
  rw [itemsP_len] at h
  have zN : M6.size + 2 ≤ N.size := zN
  have gd : N.get M6.size = some .dblk := gd
  obtain ⟨P', k1, k2, k3⟩ := h.all
  have tN := h.t
  have gbN : N.get b = some (.cells [.slice (some ⟨rb, 0, sp⟩) P.length cap, .int .i64 C] 95 true) := by rw [tN.get b hb6 h6.ne]; exact h6.gb
  have hPl : P'.length = P.length := by have := congrArg List.length k2; simpa using this
  have hkb : ∀ {A B : Mem}, (∀ y, y ∈ [b1, b3, b5] → B.get y = A.get y) → KeepB [b1, b3, b5] A B := fun hh y hy _ => hh y hy
  have hby : ∀ y, y ∈ [b1, b3, b5] → y ≠ b ∧ y ≠ rb ∧ y < N.size ∧ y ≠ M6.size := fun y hy => by
   simp only [List.mem_cons, List.not_mem_nil, or_false] at hy
   have := hf.2.2.2.2.2.2.2.2.1
   have := hf.2.2.2.2.2.2.2.1
   omega
  have kbase := tN.base
  obtain ⟨k, hk⟩ : ∃ k : Nat, k = min r.toNat P.length := ⟨_, rfl⟩
  have hkr : min r (P.length : Int) = (k : Int) := by omega
  refine grid_Grid_Resize_a2_out (grid_Grid_Resize_c1_wp (g_rows gbN fun _ _ => step_len (step_min ?_)))
  rw [hkr]
  refine g_rows gbN fun _ _ => ⟨.slice (some ⟨rb, 0, some 0⟩) k k, ?_, step_sub (by omega) (by omega) (blanks_W (freeze_ok N) (by omega) (by omega) fun M12 fv e12 n12 => ⟨e12.keepF _, ?_⟩)⟩
  ·have hb : bounds P.length cap none (some (.int .i64 (k : Int))) (some (.int .i64 (k : Int))) = some (0, k, k) := by
    simp only [bounds, optBound, boundV]
    rw [if_pos ⟨by omega, by omega⟩]
    simp only [Option.bind_some, Int.toNat_natCast]
    rw [if_pos ⟨by omega, by omega⟩]
    simp
   simp only [opSem, ev, Option.map_none, Option.map_some, hb, Option.bind_some, sliceV, Option.isSome_some]
   rw [if_neg (by intro hc; omega), if_neg (by omega)]; rfl
  have e12' := e12.thaw
  have n12' : GrN N (M12.thaw N.base) fv (List.replicate (r - (k : Int)).toNat (List.replicate c.toNat z)) := n12
  generalize M12.thaw N.base = R at e12' n12' ⊢
  obtain ⟨PF, f1, f2, f3⟩ := n12'.new fun L hL h0 => by
   rw [(List.mem_replicate.1 hL).2] at h0
   have := congrArg List.length h0
   simp at this; omega
  have hPFl : PF.length = (r - (k : Int)).toNat := by have := congrArg List.length f3; simpa using this
  have sR := e12'.size
  have bR := e12'.base
  have g12 : R.get rb = some (.cells (flat P'.row ++ rest) 26 true) := e12'.same k1
  refine app_rows (by omega) (by omega) (by omega) g12 f1 (fun h0 => ?_) (fun h0 A nb eA hnb hlt hg => ?_)
  ·have eA : Ext R R := Ext.refl R
   have hPF0 : PF.length = 0 := by rw [h0]; rfl
   have hkk : k = k + PF.length := by omega
   rw [hkk]
   have hrbx : rb = rb ∨ R.size ≤ rb := .inl rfl
   have hne : rb ≠ b := fun h => h6.ne h.symm
   have hgA : R.get rb = some (.cells (flat (Parts.row (P'.take k ++ PF)) ++ (flat (Parts.row (P'.drop k)) ++ rest)) 26 true) := by
    rw [g12, h0, List.append_nil, ← List.append_assoc]
    have : flat P'.row = flat (Parts.row (P'.take k)) ++ flat (Parts.row (P'.drop k)) := by rw [flat_row, flat_row, flat_row, ← List.map_append, List.take_append_drop]
    rw [this]
   generalize flat (Parts.row (P'.drop k)) ++ rest = rest2 at hgA
   have eNA := e12'.trans eA
   have sA := eA.size
   have bA := eA.base
   have gbA := eNA.same gbN
   have lb := Mem.lt_of_get gbA
   refine ⟨eA.keep _, _, rfl, _, rfl, pt_st gbA (by omega) (by simp) rfl rfl fun u M18 h18 => ⟨hkb fun y hy => ?_, _, rfl, _, rfl, ?_⟩⟩
   ·rw [h18, Mem.get_set _ _ _ lb, if_neg (hby y hy).1]
   have g18 : M18.get b = some (.cells [.slice (some ⟨rb, 0, some 0⟩) (k + PF.length) (k + PF.length), .int .i64 C] 95 true) := by rw [h18, Mem.get_set _ _ _ lb, if_pos rfl]; rfl
   have s18 : M18.size = R.size := by rw [h18]; rfl
   have b18 : M18.base = R.base := by rw [h18]; rfl
   have lb18 := Mem.lt_of_get g18
   refine pt_st g18 (by omega) (by simp) rfl rfl fun u M22 h22 => ⟨hkb fun y hy => ?_, ?_⟩
   ·rw [h22, Mem.get_set _ _ _ lb18, if_neg (hby y hy).1]
   have g22 : M22.get b = some (.cells [.slice (some ⟨rb, 0, some 0⟩) (k + PF.length) (k + PF.length), .int .i64 c] 95 true) := by rw [h22, Mem.get_set _ _ _ lb18, if_pos rfl]; rfl
   have s22 : M22.size = M18.size := by rw [h22]; rfl
   have b22 : M22.base = M18.base := by rw [h22]; rfl
   have k22 : ∀ y, y < R.size → y ≠ b → M22.get y = R.get y := fun y hy hn => by
    rw [h22, Mem.get_set _ _ _ lb18, if_neg hn, h18, Mem.get_set _ _ _ lb, if_neg hn]
   have gd22 : M22.get M6.size = some .dblk := by rw [k22 _ (by omega) (by omega), eNA.get _ (by omega)]; exact gd
   obtain ⟨M23, d1, d2, d3, d4⟩ := kill_ok [M6.size] M22 (fun d hd => by
    rw [List.mem_singleton] at hd; subst hd
    exact ⟨by omega, gd22⟩) (by simp)
   refine (retK_ds ⟨M23, d1, ?_⟩).2
   have eK : ∀ y, y ≠ M6.size → M23.get y = M22.get y := fun y hy => d4 y (by simpa using hy)
   have lrbx := Mem.lt_of_get hgA
   have hrb6x : rb ≠ M6.size := fun hh => by rw [hh, eNA.get _ (by omega), gd] at hgA; cases hgA
   refine q hm M23 rb ⟨by have := e6.base; omega, by have := e6.size; omega, fun y hy hn => ?_⟩ (hrbx.imp id fun h => by have := e6.size; omega) ⟨P'.take k ++ PF, some 0, k + PF.length, rest2, ?_, ?_⟩
   ·have hyb : y ≠ b := fun hh => hn (.inl hh)
    have hyr : y ≠ rb := fun hh => hn (.inr hh)
    have := e6.size
    rw [eK y (by omega), k22 y (by omega) hyb, eNA.get y (by omega), tN.get y (by omega) hyr, e6.get y hy]
   ·have hl : (P'.take k ++ PF).length = k + PF.length := by rw [List.length_append, List.length_take]; omega
    refine ⟨h6.hb, ?_, ?_, ?_, by rw [hl]; exact Nat.le_refl _, fun p hp => ?_, fun p hp => ?_, by omega, by omega, by rw [hl]; omega, by rw [hl]; omega⟩
    ·have := h6.hr
     have := (e.trans e6).size
     rcases hrbx with h | h <;> omega
    ·rw [eK b (by omega), hl, show ((c.toNat : Nat) : Int) = c by omega]; exact g22
    ·rw [eK rb hrb6x, k22 rb lrbx hne]; exact hgA
    ·have hold : New 42 M6 R p.1 p.2 ∨ New 42 N R p.1 p.2 := by
      rcases List.mem_append.1 hp with hp | hp
      ·exact .inl ((k3 p (List.mem_of_mem_take hp)).ext eNA)
      ·exact .inr ((f2 p hp).ext eA)
     have hA : New 42 M₀ R p.1 p.2 := by
      rcases hold with h | h
      ·exact h.old (e.trans e6)
      ·obtain ⟨cb, sp2, hv, gv, hlt⟩ := h
       exact ⟨cb, sp2, hv, gv, by have := (e.trans e6).size; omega⟩
     obtain ⟨cb, sp2, hv, gv, hlt⟩ := hA
     refine ⟨cb, sp2, hv, ?_, hlt⟩
     rw [eK cb (fun hh => by rw [hh, eNA.get _ (by omega), gd] at gv; cases gv), k22 cb (Mem.lt_of_get gv) (fun hh => by
      rw [hh, gbA] at gv
      exact absurd (AObj.cells.inj (Option.some.inj gv)).2.1 (by decide))]
     exact gv
    ·rcases List.mem_append.1 hp with hp | hp
     ·have : p.2 ∈ P'.map (·.2) := List.mem_map_of_mem (List.mem_of_mem_take hp)
      rw [k2] at this
      obtain ⟨L, _, hLe⟩ := List.mem_map.1 this
      rw [← hLe, resizeF_len]
     ·have : p.2 ∈ PF.map (·.2) := List.mem_map_of_mem hp
      rw [f3] at this
      rw [(List.mem_replicate.1 this).2, List.length_replicate]
   ·rw [List.map_append, f3, List.map_take, k2]
    unfold resizeG
    rw [List.length_map]
    congr 1
    ·have hl : ((P.map (·.2)).map fun L => resizeF L c.toNat z).length = P.length := by simp
     by_cases hr : r.toNat ≤ P.length
     ·rw [hk, Nat.min_eq_left hr]
     ·rw [hk, Nat.min_eq_right (by omega), List.take_of_length_le (by omega), List.take_of_length_le (by omega)]
    ·congr 1; omega
  ·have hrbx : nb = rb ∨ R.size ≤ nb := .inr (by omega)
   have hne : nb ≠ b := by omega
   have hgA : A.get nb = some (.cells (flat (Parts.row (P'.take k ++ PF)) ++ []) 26 true) := by rw [List.append_nil]; exact hg
   have eNA := e12'.trans eA
   have sA := eA.size
   have bA := eA.base
   have gbA := eNA.same gbN
   have lb := Mem.lt_of_get gbA
   refine ⟨eA.keep _, _, rfl, _, rfl, pt_st gbA (by omega) (by simp) rfl rfl fun u M18 h18 => ⟨hkb fun y hy => ?_, _, rfl, _, rfl, ?_⟩⟩
   ·rw [h18, Mem.get_set _ _ _ lb, if_neg (hby y hy).1]
   have g18 : M18.get b = some (.cells [.slice (some ⟨nb, 0, none⟩) (k + PF.length) (k + PF.length), .int .i64 C] 95 true) := by rw [h18, Mem.get_set _ _ _ lb, if_pos rfl]; rfl
   have s18 : M18.size = A.size := by rw [h18]; rfl
   have b18 : M18.base = A.base := by rw [h18]; rfl
   have lb18 := Mem.lt_of_get g18
   refine pt_st g18 (by omega) (by simp) rfl rfl fun u M22 h22 => ⟨hkb fun y hy => ?_, ?_⟩
   ·rw [h22, Mem.get_set _ _ _ lb18, if_neg (hby y hy).1]
   have g22 : M22.get b = some (.cells [.slice (some ⟨nb, 0, none⟩) (k + PF.length) (k + PF.length), .int .i64 c] 95 true) := by rw [h22, Mem.get_set _ _ _ lb18, if_pos rfl]; rfl
   have s22 : M22.size = M18.size := by rw [h22]; rfl
   have b22 : M22.base = M18.base := by rw [h22]; rfl
   have k22 : ∀ y, y < A.size → y ≠ b → M22.get y = A.get y := fun y hy hn => by
    rw [h22, Mem.get_set _ _ _ lb18, if_neg hn, h18, Mem.get_set _ _ _ lb, if_neg hn]
   have gd22 : M22.get M6.size = some .dblk := by rw [k22 _ (by omega) (by omega), eNA.get _ (by omega)]; exact gd
   obtain ⟨M23, d1, d2, d3, d4⟩ := kill_ok [M6.size] M22 (fun d hd => by
    rw [List.mem_singleton] at hd; subst hd
    exact ⟨by omega, gd22⟩) (by simp)
   refine (retK_ds ⟨M23, d1, ?_⟩).2
   have eK : ∀ y, y ≠ M6.size → M23.get y = M22.get y := fun y hy => d4 y (by simpa using hy)
   have lrbx := Mem.lt_of_get hgA
   have hrb6x : nb ≠ M6.size := fun hh => by rw [hh, eNA.get _ (by omega), gd] at hgA; cases hgA
   refine q hm M23 nb ⟨by have := e6.base; omega, by have := e6.size; omega, fun y hy hn => ?_⟩ (hrbx.imp id fun h => by have := e6.size; omega) ⟨P'.take k ++ PF, none, k + PF.length, [], ?_, ?_⟩
   ·have hyb : y ≠ b := fun hh => hn (.inl hh)
    have hyr : y ≠ rb := fun hh => hn (.inr hh)
    have := e6.size
    rw [eK y (by omega), k22 y (by omega) hyb, eNA.get y (by omega), tN.get y (by omega) hyr, e6.get y hy]
   ·have hl : (P'.take k ++ PF).length = k + PF.length := by rw [List.length_append, List.length_take]; omega
    refine ⟨h6.hb, ?_, ?_, ?_, by rw [hl]; exact Nat.le_refl _, fun p hp => ?_, fun p hp => ?_, by omega, by omega, by rw [hl]; omega, by rw [hl]; omega⟩
    ·have := h6.hr
     have := (e.trans e6).size
     rcases hrbx with h | h <;> omega
    ·rw [eK b (by omega), hl, show ((c.toNat : Nat) : Int) = c by omega]; exact g22
    ·rw [eK nb hrb6x, k22 nb lrbx hne]; exact hgA
    ·have hold : New 42 M6 A p.1 p.2 ∨ New 42 N A p.1 p.2 := by
      rcases List.mem_append.1 hp with hp | hp
      ·exact .inl ((k3 p (List.mem_of_mem_take hp)).ext eNA)
      ·exact .inr ((f2 p hp).ext eA)
     have hA : New 42 M₀ A p.1 p.2 := by
      rcases hold with h | h
      ·exact h.old (e.trans e6)
      ·obtain ⟨cb, sp2, hv, gv, hlt⟩ := h
       exact ⟨cb, sp2, hv, gv, by have := (e.trans e6).size; omega⟩
     obtain ⟨cb, sp2, hv, gv, hlt⟩ := hA
     refine ⟨cb, sp2, hv, ?_, hlt⟩
     rw [eK cb (fun hh => by rw [hh, eNA.get _ (by omega), gd] at gv; cases gv), k22 cb (Mem.lt_of_get gv) (fun hh => by
      rw [hh, gbA] at gv
      exact absurd (AObj.cells.inj (Option.some.inj gv)).2.1 (by decide))]
     exact gv
    ·rcases List.mem_append.1 hp with hp | hp
     ·have : p.2 ∈ P'.map (·.2) := List.mem_map_of_mem (List.mem_of_mem_take hp)
      rw [k2] at this
      obtain ⟨L, _, hLe⟩ := List.mem_map.1 this
      rw [← hLe, resizeF_len]
     ·have : p.2 ∈ PF.map (·.2) := List.mem_map_of_mem hp
      rw [f3] at this
      rw [(List.mem_replicate.1 this).2, List.length_replicate]
   ·rw [List.map_append, f3, List.map_take, k2]
    unfold resizeG
    rw [List.length_map]
    congr 1
    ·have hl : ((P.map (·.2)).map fun L => resizeF L c.toNat z).length = P.length := by simp
     by_cases hr : r.toNat ≤ P.length
     ·rw [hk, Nat.min_eq_left hr]
     ·rw [hk, Nat.min_eq_right (by omega), List.take_of_length_le (by omega), List.take_of_length_le (by omega)]
    ·congr 1; omega
end
end Go.Proofs.Ytifemfnjoobiiaa.Run
namespace Go.Proofs.Ytifemfnjoobiiaa.Run
open Go Go.RowKit
set_option linter.unusedVariables false
set_option linter.unusedSimpArgs false
section
variable {M₀ M : Mem} {b rb C : Nat} {G : Gd} {Q : Value → Mem → Prop}
end
end Go.Proofs.Ytifemfnjoobiiaa.Run
