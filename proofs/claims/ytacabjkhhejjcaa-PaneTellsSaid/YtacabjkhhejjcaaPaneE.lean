/- Drawn rectangles, and those kept. -/
import Derived.Test.YtacabjkhhejjcaaPaneD
namespace Go.Proofs.Ytacabjkhhejjcaa.Run
open Go Go.RowKit
set_option linter.unusedVariables false
set_option linter.unusedSimpArgs false

/-- To a row whose length is its cap something is appended. -/
theorem append_x {α : Type} [E : Enc α] {ty : TypeId} {bytes : Nat} {M : Mem} {b q : Nat} {x : Value} {A B : List α} (hg : M.get b = some (.cells (flat A) ty true)) (hB : Srcs M x B) (hn : A.length + B.length ≤ 2 ^ 40) (hby : (A.length + B.length) * bytes ≤ 2 ^ 40) :
    ∃ v M', opSem (.append ty bytes E.k false (.const (.slice (some ⟨b, 0, some q⟩) A.length A.length)) (.const x)) [] M = some (v, M') ∧ Ext M M' ∧ ((B = [] ∧ v = .slice (some ⟨b, 0, some q⟩) A.length A.length ∧ M' = M) ∨ (v = .slice (some ⟨M.size, 0, none⟩) (A ++ B).length (A ++ B).length ∧ M'.get M.size = some (.cells (flat (A ++ B)) ty true))) := by
  obtain ⟨l1, l2, l3⟩ := hB
  have hop : opSem (.append ty bytes E.k false (.const (.slice (some ⟨b, 0, some q⟩) A.length A.length)) (.const x)) [] M = appendV M ty bytes E.k (.slice (some ⟨b, 0, some q⟩) A.length A.length) x := by simp only [opSem, ev, l2, if_true]
  rw [hop]
  by_cases h0 : B.length = 0
  · have hB0 : B = [] := List.length_eq_zero_iff.1 h0
    refine ⟨_, M, ?_, Ext.refl M, .inl ⟨hB0, rfl, rfl⟩⟩
    unfold appendV
    simp only [l1, h0, if_true]
  · have hne : B ≠ [] := fun h => h0 (by rw [h]; rfl)
    have hsrc := l3 hne
    refine ⟨.slice (some ⟨M.size, 0, none⟩) (A ++ B).length (A ++ B).length, M.push (.cells (flat A ++ flat B) ty true), ?_, Ext.push _ _, .inr ⟨rfl, by rw [Mem.get_push, if_pos rfl]; simp⟩⟩
    have hl : M.loadN b 0 (A.length * E.k) = some (flat A) := by
      simp only [Mem.loadN, hg, flat_len, Nat.zero_add, Nat.le_refl, if_true, List.drop_zero]
      rw [List.take_of_length_le (by rw [flat_len]; exact Nat.le_refl _)]
    unfold appendV
    simp only [l1, h0, if_false, hsrc, hn, hby, and_self, if_true]
    rw [if_neg (by omega), hl, List.length_append]; rfl

/-- a row of one rectangle -/
theorem lit1 (a : Rc) (M : Mem) : ∃ v M', opSem (.lit 34 1 [.int .i64 0, .int .i64 0, .int .i64 0, .int .i64 0] [(0, (4, (.const a.val)))]) [] M = some (v, M') ∧ Ext M M' ∧ Sl M' v [a] := by
  refine ⟨.slice (some ⟨M.size, 0, some 0⟩) 1 1, M.push (.cells [.int .i64 a.t, .int .i64 a.l, .int .i64 a.r, .int .i64 a.c] 34 true), rfl, Ext.push _ _, some ⟨M.size, 0, some 0⟩, 1, rfl, Nat.le_refl _, .inr ⟨_, _, _, rfl, ?_, trivial⟩⟩
  simp only [Mem.loadN, Mem.get_push, if_true]
  rfl
/-- a row without any, to which a row is appended: a copy -/
theorem copy_x {M : Mem} {x : Value} {A : List Rc} {b : Nat} {M₀ : Mem} (hb : M₀.size ≤ b) (e : M₀.size ≤ M.size) (hg : M.get b = some (.cells [] 34 true)) (hA : Srcs M x A) (hn : A.length ≤ 2 ^ 30) :
    ∃ v M', opSem (.append 34 32 4 false (.const (.slice (some ⟨b, 0, some 0⟩) 0 0)) (.const x)) [] M = some (v, M') ∧ Ext M M' ∧ New 34 M₀ M' v A := by
  obtain ⟨v, M', h1, h2, h3⟩ := append_x (ty := 34) (bytes := 32) (q := 0) (A := ([] : List Rc)) (M := M) (b := b) hg hA (by rw [List.length_nil]; omega) (by rw [List.length_nil]; omega)
  have hbs := Mem.lt_of_get hg
  refine ⟨v, M', h1, h2, ?_⟩
  rcases h3 with ⟨rfl, rfl, rfl⟩ | ⟨rfl, h4⟩
  · exact ⟨b, some 0, rfl, hg, hb⟩
  · exact ⟨M.size, none, rfl, h4, e⟩

/-- a draft of a rectangle -/
structure Dr where
  a : Int
  b : Int
  c : Int
  d : Int
instance : Enc Dr := ⟨4, fun x => [.int .u8 x.a, .int .u8 x.b, .int .u8 x.c, .int .u8 x.d], fun _ => rfl, by decide⟩
def Dr.ok (x : Dr) : Prop := (0 ≤ x.a ∧ x.a ≤ 255) ∧ (0 ≤ x.b ∧ x.b ≤ 255) ∧ (0 ≤ x.c ∧ x.c ≤ 255) ∧ (0 ≤ x.d ∧ x.d ≤ 255)
def Dr.rc (x : Dr) : Rc := ⟨x.a % 12 - 1, x.b % 14 - 1, x.c % 6 - 1, x.d % 9 - 1⟩
/-- small -/
def Rc.small (a : Rc) : Prop := (-1 ≤ a.t ∧ a.t ≤ 20) ∧ (-1 ≤ a.l ∧ a.l ≤ 20) ∧ (-1 ≤ a.r ∧ a.r ≤ 20) ∧ (-1 ≤ a.c ∧ a.c ≤ 20)
theorem Dr.rc_small (x : Dr) : x.rc.small := by unfold Dr.rc Rc.small; simp only; omega
theorem Rc.small.ok {a : Rc} (h : a.small) : a.ok := by unfold Rc.small at h; unfold Rc.ok I64; omega

section
variable {Q : Value → Mem → Prop}

theorem rect1_W {M : Mem} (hM : M.base ≤ M.size) {x : Dr} (hx : x.ok) (q : ∀ M', Ext M M' → Q x.rc.val M') : W funs known (.func (.func n_law26_Draft_rect1) #[] #[]) [.agg #[.int .u8 x.a, .int .u8 x.b, .int .u8 x.c, .int .u8 x.d]] M Q := by
  obtain ⟨h1, h2, h3, h4⟩ := hx
  refine law26_Draft_rect1_wp hM ⟨rfl, fun b1 M2 hb1 hM2 => ⟨rfl, fun b3 M4 hb3 hM4 => ?_⟩⟩
  have e4 : Ext M M4 := (Ext.push' hM2).trans (Ext.push' hM4)
  have s2 : M2.size = M.size + 1 := by rw [hM2]; rfl
  have s4 : M4.size = M2.size + 1 := by rw [hM4]; rfl
  refine step_rem8 (by decide) h1.1 (step_conv (i64_ok (by omega) (by omega)) (step_sub (by omega) (by omega) ?_))
  refine step_rem8 (by decide) h2.1 (step_conv (i64_ok (by omega) (by omega)) (step_sub (by omega) (by omega) ?_))
  refine step_rem8 (by decide) h3.1 (step_conv (i64_ok (by omega) (by omega)) (step_sub (by omega) (by omega) ?_))
  refine step_rem8 (by decide) h4.1 (step_conv (i64_ok (by omega) (by omega)) (step_sub (by omega) (by omega) ?_))
  exact ⟨_, rfl, ⟨rfl, rfl, by decide⟩, fun M5 hM5 => LGetN.as x.rc.val (by exact Nat.le_refl 4) rfl (q _ (hM5 ▸ e4.set (by omega) (by omega) _))⟩

abbrev drI (M : Mem) (L : List Dr) (v : Value) : Nat → LS → Prop := fun k s => ∃ (i : Nat) (o : Value) (M' : Mem), s = law26_drawn_l1_s v o (.int .i64 i) [] M' ∧ Ext M M' ∧ Mine 34 M M' o ((L.take i).map Dr.rc) ∧ i ≤ L.length ∧ i ≤ 10 ∧ k = L.length - i

set_option maxHeartbeats 1000000 in
theorem drawn_W {M : Mem} (hM : M.base ≤ M.size) {v : Value} {L : List Dr} (h : Sl M v L) (hok : ∀ a ∈ L, a.ok)
    (q : ∀ M' o (G : List Rc), Ext M M' → Mine 34 M M' o G → (∀ a ∈ G, a.small) → G.length ≤ 10 → Q o M') : W funs known (.func (.func n_law26_drawn) #[] #[]) [v] M Q := by
  obtain ⟨ad, cap, rfl, hcap, hs⟩ := id h
  refine law26_drawn_wp hM ?_
  refine ⟨law26_drawn_l1_m, drI M L (.slice ad L.length cap), ⟨L.length, 0, _, M, rfl, Ext.refl M, .inr ⟨rfl, rfl⟩, Nat.zero_le _, by omega, rfl⟩, ?_⟩
  rintro k s ⟨i, o, M', rfl, eM, ho, hi, hi10, rfl⟩
  have hsm : ∀ a ∈ (L.take i).map Dr.rc, a.small := by
    intro a ha
    obtain ⟨d, _, rfl⟩ := List.mem_map.1 ha
    exact d.rc_small
  refine law26_drawn_l1_wp (I := drI M L (.slice ad L.length cap)) (step_len ?_)
  refine step_lss (wpIf.dec (fun h1 => step_lss (wpIf.dec (fun h2 => ?_) (fun h2 => ?_))) (fun h1 => ?_))
  · have hlt : i < L.length := by omega
    obtain ⟨a, ha⟩ : ∃ a, L[i]? = some a := ⟨_, List.getElem?_eq_getElem hlt⟩
    obtain ⟨p, hp, hat⟩ := (h.ext eM).addrN ha (j := .i64) M'
    refine ⟨p, hp, _, hat.load, rect1_W (eM.ok hM) (hok a (List.mem_of_getElem? ha)) fun M7 e7 => ?_⟩
    obtain ⟨v8, M9, h8, e9, sl9⟩ := lit1 a.rc M7
    have e79 := (eM.trans e7).trans e9
    have hlen : ((L.take i).map Dr.rc).length ≤ 10 := by rw [List.length_map, List.length_take]; omega
    obtain ⟨v10, M11, h10, e11, m11, _⟩ := append_ok (ty := 34) (bytes := 32) e79 hM ((ho.ext e7).ext e9) sl9.srcs (by simp only [List.length_singleton]; omega) (by simp only [List.length_singleton]; omega)
    refine ⟨v8, M9, h8, v10, M11, h10, step_add (by omega) (by omega) ⟨L.length - (i + 1), by omega, i + 1, v10, M11, rfl, e11, ?_, by omega, by omega, rfl⟩⟩
    rw [List.take_add_one, ha, List.map_append]
    exact m11
  · refine blockK.hit (law26_drawn_c0_wp ?_)
    exact q M' o _ eM ho hsm (by rw [List.length_map, List.length_take]; omega)
  · refine blockK.hit (law26_drawn_c0_wp ?_)
    exact q M' o _ eM ho hsm (by rw [List.length_map, List.length_take]; omega)

theorem checkF_nil {R C : Int} (h : screenF R C = true) : checkF R C [] = 0 := by
  unfold checkF apartF; rw [h]; rfl

abbrev kpI (M : Mem) (R C : Int) (L : List Rc) (v : Value) : Nat → LS → Prop := fun k s => ∃ (i : Nat) (o : Value) (G : List Rc) (M' : Mem), s = law26_kept_l1_s (.int .i64 R) (.int .i64 C) v o (.int .i64 i) [] M' ∧ Ext M M' ∧ Mine 34 M M' o G ∧ (∀ a ∈ G, a ∈ L) ∧ G.length ≤ i ∧ (screenF R C = true → checkF R C G = 0) ∧ i ≤ L.length ∧ k = L.length - i

set_option maxHeartbeats 1000000 in
theorem kept_W {M : Mem} (hM : M.base ≤ M.size) {v : Value} {L : List Rc} (h : Sl M v L) (hok : ∀ a ∈ L, a.ok) (hL : L.length ≤ 2 ^ 20) {R C : Int}
    (q : ∀ M' o (G : List Rc), Ext M M' → Mine 34 M M' o G → (∀ a ∈ G, a ∈ L) → G.length ≤ L.length → (screenF R C = true → checkF R C G = 0) → Q o M') : W funs known (.func (.func n_law26_kept) #[] #[]) [.int .i64 R, .int .i64 C, v] M Q := by
  obtain ⟨ad, cap, rfl, hcap, hs⟩ := id h
  refine law26_kept_wp hM ?_
  refine ⟨law26_kept_l1_m, kpI M R C L (.slice ad L.length cap), ⟨L.length, 0, _, [], M, rfl, Ext.refl M, .inr ⟨rfl, rfl⟩, fun a ha => by simp at ha, Nat.le_refl _, fun hs => checkF_nil hs, Nat.zero_le _, rfl⟩, ?_⟩
  rintro k s ⟨i, o, G, M', rfl, eM, ho, hGL, hGi, hG, hi, rfl⟩
  refine law26_kept_l1_wp (I := kpI M R C L (.slice ad L.length cap)) (step_len ?_)
  refine step_lss (wpIf.dec (fun h1 => ?_) (fun h1 => ?_))
  rotate_left
  · refine blockK.hit (law26_kept_c0_wp ?_)
    exact q M' o G eM ho hGL (by omega) hG
  · have hlt : i < L.length := by omega
    obtain ⟨a, ha⟩ : ∃ a, L[i]? = some a := ⟨_, List.getElem?_eq_getElem hlt⟩
    have e4 : Ext M' ((M'.freeze.push (.cells [] 34 true)).thaw M'.base) := Ext.thaw (Ext.push M'.freeze _)
    have g4 : ((M'.freeze.push (.cells [] 34 true)).thaw M'.base).get M'.size = some (.cells [] 34 true) := by
      show (M'.freeze.push (.cells [] 34 true)).get M'.size = _
      rw [Mem.get_push]; exact if_pos rfl
    refine ⟨.slice (some ⟨M'.size, 0, some 0⟩) 0 0, M'.freeze.push (.cells [] 34 true), rfl, ?_⟩
    generalize (M'.freeze.push (.cells [] 34 true)).thaw M'.base = P at e4 g4 ⊢
    have hPb : P.base = M'.base := e4.base
    obtain ⟨v5, P2, h5, eQ, nQ⟩ := copy_x (M := P) (M₀ := M') (b := M'.size) (Nat.le_refl _) e4.size g4 (ho.sl.ext e4).srcs (by omega)
    refine ⟨v5, P2, opSemQ_app h5, ?_⟩
    have e2 : Ext M' P2 := e4.trans eQ
    obtain ⟨p, hp, hat⟩ := (h.ext (eM.trans e2)).addrN ha (j := .i64) P2
    obtain ⟨v9, M10, h9, e10, sl10⟩ := lit1 a P2.freeze
    refine ⟨p, hp, _, hat.load, v9, M10, h9, ?_⟩
    have eR : Ext P2 (M10.thaw P2.base) := Ext.thaw e10
    have slR : Sl (M10.thaw P2.base) v9 [a] := sl10
    generalize M10.thaw P2.base = P3 at eR slR ⊢
    have e3 : Ext M' P3 := e2.trans eR
    obtain ⟨v11, M12, h11, e12, m12, _⟩ := append_ok (ty := 34) (bytes := 32) e3 (eM.ok hM) (.inl (nQ.ext eR)) slR.srcs (by simp only [List.length_singleton]; omega) (by simp only [List.length_singleton]; omega)
    refine ⟨v11, M12, h11, ?_⟩
    have haL : ∀ c ∈ G ++ [a], c ∈ L := by
      intro c hc
      rcases List.mem_append.1 hc with hc | hc
      · exact hGL c hc
      · rw [List.mem_singleton] at hc
        exact hc ▸ List.mem_of_getElem? ha
    refine rcheck_W ((eM.trans e12).ok hM) m12.sl (fun c hc => hok c (haL c hc)) (by rw [List.length_append, List.length_singleton]; omega) fun M14 e14 => step_eql (wpIf.dec (fun c1 => ?_) (fun c1 => ?_))
    · refine step_add (by omega) (by omega) ⟨L.length - (i + 1), by omega, i + 1, v11, G ++ [a], M14, rfl, (eM.trans e12).trans e14, (m12.ext e14).old eM, haL, by rw [List.length_append, List.length_singleton]; omega, fun _ => c1, by omega, rfl⟩
    · refine step_add (by omega) (by omega) ⟨L.length - (i + 1), by omega, i + 1, o, G, M14, rfl, (eM.trans e12).trans e14, (ho.ext e12).ext e14, hGL, by omega, hG, by omega, rfl⟩
end
end Go.Proofs.Ytacabjkhhejjcaa.Run
