/- Chapter 30: tiles out of drafts. -/
import Derived.Test.YtkelbhcaecojkaaScreen
import Derived.Test.YtkelbhcaecojkaaVcT
namespace Go.Proofs.Ytkelbhcaecojkaa.Run
open Go Go.RowKit
set_option linter.unusedVariables false
set_option linter.unusedSimpArgs false

/-- a draft of a tile -/
structure Df where
  t : Int
  l : Int
  r : Int
  c : Int
  g : Int
  v : Value
instance : Enc Df := ⟨6, fun a => [.int .u8 a.t, .int .u8 a.l, .int .u8 a.r, .int .u8 a.c, .int .u8 a.g, a.v], fun _ => rfl, by decide⟩
structure Df.ok (a : Df) : Prop where
  t : 0 ≤ a.t ∧ a.t ≤ 255
  l : 0 ≤ a.l ∧ a.l ≤ 255
  r : 0 ≤ a.r ∧ a.r ≤ 255
  c : 0 ≤ a.c ∧ a.c ≤ 255
  g : 0 ≤ a.g ∧ a.g ≤ 255
abbrev Dfs := List (Df × Lns)
abbrev Dfs.row (D : Dfs) : List Df := D.map (·.1)
def DfsOK (M : Mem) (D : Dfs) : Prop := ∀ p ∈ D, p.1.ok ∧ SlH M p.1.v p.2.row ∧ LnsOK M p.2
theorem DfsOK.ext {M M' : Mem} (e : Ext M M') {D : Dfs} (h : DfsOK M D) : DfsOK M' D := fun p hp => ⟨(h p hp).1, (h p hp).2.1.ext e, (h p hp).2.2.ext e⟩
theorem lns_of {M : Mem} : ∀ {L : List Ln}, (∀ a ∈ L, ∃ D : List Dr, SlH M a.v D ∧ ∀ d ∈ D, d.ok) → ∃ T : Lns, T.row = L ∧ LnsOK M T
  | [], _ => ⟨[], rfl, fun p hp => by simp at hp⟩
  | a :: L, h => by
    obtain ⟨D, h1, h2⟩ := h a List.mem_cons_self
    obtain ⟨T, h3, h4⟩ := lns_of fun b hb => h b (List.mem_cons_of_mem _ hb)
    refine ⟨(a, D) :: T, by rw [← h3]; rfl, fun p hp => ?_⟩
    rcases List.mem_cons.1 hp with rfl | hp
    · exact ⟨h1, h2⟩
    · exact h4 p hp
/-- what is known of a draft of a tile -/
def dfK (M : Mem) (a : Df) : Prop := a.ok ∧ ∃ L : List Ln, SlH M a.v L ∧ ∀ b ∈ L, ∃ D : List Dr, SlH M b.v D ∧ ∀ d ∈ D, d.ok
theorem dfs_of {M : Mem} : ∀ {L : List Df}, (∀ a ∈ L, dfK M a) → ∃ D : Dfs, D.row = L ∧ DfsOK M D
  | [], _ => ⟨[], rfl, fun p hp => by simp at hp⟩
  | a :: L, h => by
    obtain ⟨ok, R, h1, h2⟩ := h a List.mem_cons_self
    obtain ⟨T, rfl, h3⟩ := lns_of h2
    obtain ⟨D, h4, h5⟩ := dfs_of fun b hb => h b (List.mem_cons_of_mem _ hb)
    refine ⟨(a, T) :: D, by rw [← h4]; rfl, fun p hp => ?_⟩
    rcases List.mem_cons.1 hp with rfl | hp
    · exact ⟨ok, h1, h3⟩
    · exact h5 p hp
def Df.rect (a : Df) : Rc := ⟨a.t % 12 - 2, a.l % 14 - 2, a.r % 8 - 1, a.c % 12 - 1⟩
def tilesF (D : Dfs) : List (Rc × Gd) := (D.take 6).map fun p => (p.1.rect, gridF p.1.g p.2)
/-- tiles of one's own -/
def TlN (M₀ M : Mem) (v : Value) (T : Tls) : Prop := Mine 63 M₀ M v T.row ∧ ∀ a ∈ T, GrN M₀ M a.1.v a.2
theorem TlN.ext {M₀ M M' : Mem} (e : Ext M M') {v : Value} {T : Tls} (h : TlN M₀ M v T) : TlN M₀ M' v T := ⟨h.1.ext e, fun a ha => (h.2 a ha).ext e⟩
theorem TlN.old {M₁ M₀ M : Mem} (e : Ext M₁ M₀) {v : Value} {T : Tls} (h : TlN M₀ M v T) : TlN M₁ M v T := ⟨h.1.old e, fun a ha => (h.2 a ha).old e⟩
theorem mine_keep' {α β : Type} [Enc α] [Enc β] {M₀ M M' : Mem} {ty ty' : TypeId} {s x : Value} {R : List α} {L : List β} (hs : Mine ty M₀ M s R) (hx : Mine ty' M₀ M x L) (hne : ty' ≠ ty) (k : ∀ c, c < M.size → blk s ≠ some c → M'.get c = M.get c) : Mine ty' M₀ M' x L := by
  rcases hx with ⟨b, sp, rfl, h1, h2⟩ | hx
  · refine .inl ⟨b, sp, rfl, ?_, h2⟩
    rw [k b (Mem.lt_of_get h1)]
    · exact h1
    · rcases hs with ⟨b', sp', rfl, h3, _⟩ | ⟨_, rfl⟩
      · intro e
        simp only [blk] at e
        cases e
        rw [h1] at h3; exact hne (AObj.cells.inj (Option.some.inj h3)).2.1
      · simp [blk]
  · exact .inr hx
theorem GrN.keep {α : Type} [Enc α] {M₀ M M' : Mem} {ty : TypeId} {s v : Value} {R : List α} {G : Gd} (hs : Mine ty M₀ M s R) (h : GrN M₀ M v G) (h1 : (35 : TypeId) ≠ ty) (h2 : (53 : TypeId) ≠ ty) (k : ∀ c, c < M.size → blk s ≠ some c → M'.get c = M.get c) : GrN M₀ M' v G := by
  obtain ⟨P, p1, p2, p3⟩ := h
  exact ⟨P, mine_keep' hs p1 h1 k, fun p hp => mine_keep' hs (p2 p hp) h2 k, p3⟩

theorem gridF_row {c : Int} {T : Lns} : ∀ L ∈ gridF c T, L.length ≤ 2 ^ 30 := fun L hL => by
  obtain ⟨p, _, rfl⟩ := List.mem_map.1 hL
  rw [rowF_len]; omega
theorem tl_ok {p : Df} (hp : p.ok) {v : Value} {G : Gd} (h1 : G.length ≤ 2 ^ 20) (h2 : ∀ L ∈ G, L.length ≤ 2 ^ 30) : TlOK (⟨p.rect, v⟩, G) := by
  have := hp.t; have := hp.l; have := hp.r; have := hp.c
  exact ⟨by show -100 ≤ p.t % 12 - 2 ∧ p.t % 12 - 2 ≤ 100; omega, by show -100 ≤ p.l % 14 - 2 ∧ p.l % 14 - 2 ≤ 100; omega, by show -100 ≤ p.r % 8 - 1 ∧ p.r % 8 - 1 ≤ 100; omega, by show -100 ≤ p.c % 12 - 1 ∧ p.c % 12 - 1 ≤ 100; omega, h1, h2⟩

section
variable {M : Mem} {Q : Value → Mem → Prop}
theorem drect_W (hM : M.base ≤ M.size) {a : Df} (ha : a.ok) (q : ∀ M', Ext M M' → Q a.rect.val M') : W funs known (.func (.func n_law30_Draft_rect1) #[] #[]) [.agg (Enc.enc a).toArray] M Q := by
  have h1 := ha.t; have h2 := ha.l; have h3 := ha.r; have h4 := ha.c
  refine law30_Draft_rect1_wp hM ⟨rfl, fun b1 M2 hb1 hM2 => ⟨rfl, fun b3 M4 hb3 hM4 => ?_⟩⟩
  have e4 : Ext M M4 := (Ext.push' hM2).trans (Ext.push' hM4)
  have s2 : M2.size = M.size + 1 := by rw [hM2]; rfl
  have s4 : M4.size = M2.size + 1 := by rw [hM4]; rfl
  refine step_rem8 (by omega) (by omega) (step_conv (IntWalk.i64_in _ (by omega)) (step_sub (by omega) (by omega) ?_))
  refine step_rem8 (by omega) (by omega) (step_conv (IntWalk.i64_in _ (by omega)) (step_sub (by omega) (by omega) ?_))
  refine step_rem8 (by omega) (by omega) (step_conv (IntWalk.i64_in _ (by omega)) (step_sub (by omega) (by omega) ?_))
  refine step_rem8 (by omega) (by omega) (step_conv (IntWalk.i64_in _ (by omega)) (step_sub (by omega) (by omega) ?_))
  refine ⟨a.rect.val, rfl, ⟨rfl, rfl, by decide⟩, fun M18 hM18 => LGetN.as a.rect.val (by exact Nat.le_refl 4) rfl (q _ (hM18 ▸ e4.set (by omega) (by omega) _))⟩

abbrev tlI (M : Mem) (D : Dfs) (dv : Value) : Nat → LS → Prop := fun k s => ∃ (i : Nat) (M' : Mem) (r : Value) (T : Tls), s = law30_tiles_l1_s dv r (.int .i64 i) [] M' ∧ Ext M M' ∧ TlN M M' r T ∧ T.map (fun a => (a.1.r, a.2)) = ((D.take i).map fun p => (p.1.rect, gridF p.1.g p.2)) ∧ i ≤ D.length ∧ i ≤ 6 ∧ k = 6 - i
theorem tiles_W (hM : M.base ≤ M.size) {dv : Value} {D : Dfs} (h : Sl M dv D.row) (hok : DfsOK M D) (q : ∀ M' r T, Ext M M' → TlN M M' r T → T.map (fun a => (a.1.r, a.2)) = tilesF D → Q r M') : W funs known (.func (.func n_law30_tiles) #[] #[]) [dv] M Q := by
  obtain ⟨ad, cap, hdv⟩ := h.shape
  subst hdv
  have hDl : D.row.length = D.length := by simp
  refine law30_tiles_wp hM ?_
  generalize hdv : Value.slice ad D.row.length cap = dv at *
  refine ⟨law30_tiles_l1_m, tlI M D dv, ⟨6, 0, M, .slice none 0 0, [], rfl, Ext.refl _, ⟨.inr ⟨rfl, rfl⟩, by simp⟩, rfl, Nat.zero_le _, by omega, rfl⟩, ?_⟩
  rintro k s ⟨i, M', r, T, rfl, eM, nT0, hTF, hi, hi6, rfl⟩
  have nT : TlN M M' r T := nT0
  clear nT0
  have hTl : T.length = i := by
    have := congrArg List.length hTF
    simp only [List.length_map, List.length_take] at this
    omega
  have hTr : T.row.length = T.length := by simp
  refine law30_tiles_l1_wp (I := tlI M D dv) (step_lenS h ?_)
  rw [hDl]
  have done : (¬ i < D.length ∨ ¬ i < 6) → Q r M' := fun hno => q M' r T eM nT (by
    rw [hTF]; unfold tilesF
    congr 1
    rcases Nat.lt_or_ge i 6 with h6 | h6
    · rw [List.take_of_length_le (by omega), List.take_of_length_le (by omega)]
    · rw [show i = 6 by omega])
  refine step_lss (wpIf.dec (fun g1 => step_lss (wpIf.dec (fun g2 => ?_) (fun g2 => ?_))) (fun g1 => ?_))
  rotate_left
  · exact blockK.hit (law30_tiles_c0_wp (done (.inr (by omega))))
  · exact blockK.hit (law30_tiles_c0_wp (done (.inl (by omega))))
  obtain ⟨p, hp⟩ : ∃ p, D[i]? = some p := ⟨_, List.getElem?_eq_getElem (by omega)⟩
  have hr : D.row[i]? = some p.1 := by show (D.map _)[i]? = _; rw [List.getElem?_map, hp]; rfl
  obtain ⟨ok1, ok2, ok3⟩ := hok p (List.mem_of_getElem? hp)
  have ri : D.row[(i : Int).toNat]? = some p.1 := by rw [Int.toNat_natCast]; exact hr
  have kM := eM.ok hM
  refine rd (h.ext eM) (by omega) ri fun _ => drect_W (freeze_ok _) ok1 fun M7 e7 => ?_
  have t7 := Ext.thaw e7
  have t07 := eM.trans t7
  refine rd_fs (h.ext t07) (by omega) ri (f := 4) (n := 2) rfl (by exact Nat.le_refl 6) fun _ _ => ?_
  refine grid_W (t07.ok hM) ok1.g (ok2.ext t07) (ok3.ext t07) fun M12 gv e12 g12 => ?_
  have t12 := t07.trans e12
  obtain ⟨ag, cg, hgv⟩ := g12.gr.shape
  subst hgv
  refine ⟨.agg (Enc.enc (⟨p.1.rect, .slice ag (gridF p.1.g p.2).length cg⟩ : Tl)).toArray, rfl, ?_⟩
  generalize Value.slice ag (gridF p.1.g p.2).length cg = gv at *
  refine step_lit [(⟨p.1.rect, gv⟩ : Tl)] rfl rfl fun w M15 e15 n15 => ?_
  have t15 := t12.trans e15
  have nT15 : TlN M M15 r T := ((nT.ext t7).ext e12).ext e15
  have g15 : GrN M M15 gv (gridF p.1.g p.2) := (g12.old t07).ext e15
  refine step_appM t15 hM nT15.1 n15.sl.srcs (by rw [hTr]; simp only [List.length_singleton]; omega) (by rw [hTr]; simp only [List.length_singleton]; omega) fun v16 M17 e17 n17 k17 => step_add (by omega) (by omega) ⟨6 - (i + 1), by omega, i + 1, M17, v16, T ++ [(⟨p.1.rect, gv⟩, gridF p.1.g p.2)], rfl, e17, ⟨?_, ?_⟩, ?_, by omega, by omega, rfl⟩
  · have : Tls.row (T ++ [(⟨p.1.rect, gv⟩, gridF p.1.g p.2)]) = T.row ++ [(⟨p.1.rect, gv⟩ : Tl)] := by simp [Tls.row]
    rw [this]; exact n17
  · intro a ha
    rcases List.mem_append.1 ha with ha | ha
    · exact GrN.keep nT15.1 (nT15.2 a ha) (by decide) (by decide) k17
    · rw [List.mem_singleton] at ha; subst ha
      exact GrN.keep nT15.1 g15 (by decide) (by decide) k17
  · obtain ⟨h1, h2⟩ := List.getElem?_eq_some_iff.1 hp
    rw [List.map_append, hTF, List.take_succ_eq_append_getElem h1, h2, List.map_append]; rfl
end
end Go.Proofs.Ytkelbhcaecojkaa.Run
