/- Chapter 30: compose.Screen. -/
import Derived.Test.YtkelbhcaecojkaaLay
namespace Go.Proofs.Ytkelbhcaecojkaa.Run
open Go Go.RowKit
set_option linter.unusedVariables false
set_option linter.unusedSimpArgs false

section
variable {M₀ M M' : Mem} {v : Value} {G : Gd}
/-- a row of one's own grid is read -/
theorem rdN (h : GrN M₀ M v G) {i : Int} {L : List Ce} (h0 : 0 ≤ i) (hi : G[i.toNat]? = some L) {j : IntKind} {P : Value → Value → Prop} (q : ∀ p x, Mine 53 M₀ M x L → P p x) :
    ∃ p, opSem (.addrL 1 (.const v) (.const (.int j i))) [] M = some (p, M) ∧ ∃ x, opSem (.load none (.const p)) [] M = some (x, M) ∧ P p x := by
  obtain ⟨R, h1, h2, rfl⟩ := h
  rw [List.getElem?_map] at hi
  obtain ⟨⟨x, L'⟩, hr, hL⟩ := Option.map_eq_some_iff.1 hi
  cases hL
  exact rd1 h1.sl h0 (a := (⟨x⟩ : Vl)) (by show (R.map _)[_]? = _; rw [List.getElem?_map, hr]; rfl) rfl fun p => q p x (h2 _ (List.mem_of_getElem? hr))
/-- a row of one's own grid is set -/
theorem setG (e : Ext M₀ M) (hb : M₀.base ≤ M₀.size) (h : GrN M₀ M v G) {i : Nat} (hi : i < G.length) {x : Value} {L : List Ce} (hL : Mine 53 M₀ M x L) {j : IntKind} :
    ∃ p, opSem (.addrL 1 (.const v) (.const (.int j (i : Int)))) [] M = some (p, M) ∧ ∃ u M', opSem (.store 1 (.const p) (.const x)) [] M = some (u, M') ∧ Ext M₀ M' ∧ GrN M₀ M' v (G.set i L) ∧ (∀ c, c < M.size → blk v ≠ some c → M'.get c = M.get c) := by
  obtain ⟨P, h1, h2, rfl⟩ := h
  have hiP : i < P.length := by simpa using hi
  have hn : New 35 M₀ M v P.row := by
    rcases h1 with h1 | ⟨h0, _⟩
    · exact h1
    · have : P.row.length = 0 := by rw [h0]; rfl
      rw [List.length_map] at this; omega
  obtain ⟨p, hp, u, M', hs, e', n', k⟩ := wrG e hb hn (i := i) (by simpa using hiP) (x := x) (by rw [(SlH.cells (.inl hL.sl)).1]) (SlH.cells (.inl hL.sl)).2.1 (j := j)
  refine ⟨p, hp, u, M', hs, e', ⟨P.set i (x, L), .inl ?_, ?_, by rw [List.map_set]⟩, k⟩
  · have : Parts.row (P.set i (x, L)) = P.row.set i ⟨x⟩ := by simp [Parts.row, List.map_set]
    rw [this]; exact n'
  · intro a ha
    rcases List.mem_or_eq_of_mem_set ha with ha | rfl
    · exact mine_keep h1 (h2 a ha) (by decide) k
    · exact mine_keep h1 hL (by decide) k
theorem grn_lt (h : GrN M₀ M v G) {x : Nat} (hb : blk v = some x) : x < M.size := by
  obtain ⟨P, h1, _, _⟩ := h
  exact mine_lt h1 hb

/-- what is known of a tile -/
structure TlOK (a : Tl × Gd) : Prop where
  t : -100 ≤ a.1.r.t ∧ a.1.r.t ≤ 100
  l : -100 ≤ a.1.r.l ∧ a.1.r.l ≤ 100
  r : -100 ≤ a.1.r.r ∧ a.1.r.r ≤ 100
  c : -100 ≤ a.1.r.c ∧ a.1.r.c ≤ 100
  n : a.2.length ≤ 2 ^ 20
  w : ∀ L ∈ a.2, L.length ≤ 2 ^ 30
end

theorem tileTo_step {R C : Int} {a : Tl × Gd} {i : Nat} {G : Gd} {L : List Ce} (hL : G[i]? = some L) (h : max 1 (clipF a.1.r R C).t ≤ i ∧ (i : Int) < (clipF a.1.r R C).t + (clipF a.1.r R C).r ∧ (i : Int) - a.1.r.t < a.2.length) :
    tileTo R C a ((i : Int) + 1) G = (tileTo R C a i G).set i (layF L (a.2.getD ((i : Int) - a.1.r.t).toNat []) (clipF a.1.r R C).l ((clipF a.1.r R C).l - a.1.r.l) (clipF a.1.r R C).c) := by
  refine List.ext_getElem? fun k => ?_
  rw [List.getElem?_set, tileTo_get, tileTo_get, tileTo_len]
  by_cases hk : i = k
  · subst hk
    rw [if_pos rfl, if_pos (List.getElem?_eq_some_iff.1 hL).1, hL, Option.map_some, if_pos ⟨h.1, h.2.1, h.2.2, by omega⟩]
  · rw [if_neg hk]
    congr 1
    funext K
    split <;> split <;> first | rfl | (exfalso; omega)
theorem tileTo_all {R C : Int} {a : Tl × Gd} {i : Nat} {G : Gd} (hG : (G.length : Int) = R) (h : (clipF a.1.r R C).t + (clipF a.1.r R C).r ≤ i ∨ (a.2.length : Int) ≤ (i : Int) - a.1.r.t) : tileTo R C a i G = tileF R C a G := by
  unfold tileF
  refine List.ext_getElem? fun k => ?_
  rw [tileTo_get, tileTo_get]
  by_cases hk : k < G.length
  · congr 1
    funext K
    split <;> split <;> first | rfl | (exfalso; omega)
  · rw [List.getElem?_eq_none (by omega)]; rfl
theorem tileTo_none {R C : Int} {a : Tl × Gd} {i : Int} {G : Gd} (h : i ≤ max 1 (clipF a.1.r R C).t) : tileTo R C a i G = G := by
  refine List.ext_getElem? fun k => ?_
  rw [tileTo_get]
  have : (fun L : List Ce => if max 1 (clipF a.1.r R C).t ≤ k ∧ (k : Int) < (clipF a.1.r R C).t + (clipF a.1.r R C).r ∧ (k : Int) - a.1.r.t < a.2.length ∧ (k : Int) < i then layF L (a.2.getD ((k : Int) - a.1.r.t).toNat []) (clipF a.1.r R C).l ((clipF a.1.r R C).l - a.1.r.l) (clipF a.1.r R C).c else L) = id := by
    funext L
    rw [if_neg (by omega)]; rfl
  rw [this, Option.map_id]; rfl

section
variable {M : Mem} {Q : Value → Mem → Prop}
abbrev s1I (M : Mem) (R C : Nat) (b : List Ce) (tv : Value) : Nat → LS → Prop := fun k s => ∃ (i : Nat) (M' : Mem) (r : Value), s = compose_Screen_l1_s (.int .i64 R) (.int .i64 C) tv r (.int .i64 ((R : Int) - 1)) (.int .i64 i) [] M' ∧ Ext M M' ∧ GrN M M' r (resizeF b C zeroC :: List.replicate i (List.replicate C zeroC)) ∧ i ≤ R - 1 ∧ k = R - 1 - i
abbrev s3I (M : Mem) (R C : Nat) (S : Gd) (T : Tls) (tv : Value) : Nat → LS → Prop := fun k s => ∃ (i : Nat) (M' : Mem) (r : Value), s = compose_Screen_l3_s (.int .i64 R) (.int .i64 C) r tv (.int .i64 T.length) (.int .i64 i) [] M' ∧ Ext M M' ∧ GrN M M' r ((T.take i).foldl (fun G a => tileF R C a G) S) ∧ i ≤ T.length ∧ k = T.length - i
abbrev s5I (M : Mem) (R C : Nat) (T : Tls) (G : Gd) (a : Tl × Gd) (tv r : Value) (i3 : Nat) (b4 b10 : Nat) : Nat → LS → Prop := fun k s => ∃ (i : Nat) (M' : Mem), s = compose_Screen_l5_s (.int .i64 R) (.int .i64 C) r (.int .i64 i) tv (.int .i64 T.length) (.int .i64 i3) b4 (Enc.enc a.1) b10 [.int .i64 (clipF a.1.r R C).t, .int .i64 (clipF a.1.r R C).l, .int .i64 (clipF a.1.r R C).r, .int .i64 (clipF a.1.r R C).c] [] M' ∧ Ext M M' ∧ GrN M M' r (tileTo R C a i G) ∧ max 1 (clipF a.1.r R C).t ≤ i ∧ i ≤ 600 ∧ k = 600 - i

theorem screen30_W (hM : M.base ≤ M.size) {R C : Nat} (hR : 2 ≤ R ∧ R ≤ 512) (hC : 1 ≤ C ∧ C ≤ 512) {bv tv : Value} {b : List Ce} {T : Tls} (hb : Sl M bv b) (hbl : b.length ≤ 2 ^ 30) (hT : Sl M tv T.row) (hTl : T.length ≤ 2 ^ 20) (hG : ∀ a ∈ T, Gr M a.1.v a.2) (okT : ∀ a ∈ T, TlOK a) (q : ∀ M' r, Ext M M' → GrN M M' r (screenF R C b T) → Q (.tuple #[r, .int .i64 0]) M') :
    W funs known (.func (.func n_compose_Screen) #[] #[]) [.int .i64 R, .int .i64 C, bv, tv] M Q := by
  have hTrl : T.row.length = T.length := by simp
  obtain ⟨ab, cb, rfl⟩ := hb.shape
  obtain ⟨at', ct, htv⟩ := hT.shape
  subst htv
  refine compose_Screen_wp hM (check0_W hM (by omega) (by omega) (s_neF (by simp) (wpIf.ff ⟨zeroC.val, rfl, ?_⟩)))
  refine resize_W hM hb hbl (by omega) fun M6 r5 e6 n6 => ?_
  rw [Int.toNat_natCast] at n6
  refine step_lit [(⟨r5⟩ : Vl)] (fill1 n6.sl.srcs) rfl fun v7 M8 e8 n8 => step_sub (by omega) (by omega) ?_
  have e08 := e6.trans e8
  have g8 : GrN M M8 v7 (resizeF b C zeroC :: List.replicate 0 (List.replicate C zeroC)) := ⟨[(r5, resizeF b C zeroC)], .inl (New.old e6 n8), fun p hp => by rw [List.mem_singleton] at hp; subst hp; exact .inl (n6.ext e8), rfl⟩
  generalize htv : Value.slice at' T.row.length ct = tv at *
  refine ⟨compose_Screen_l1_m, s1I M R C b tv, ⟨R - 1, 0, M8, v7, rfl, e08, g8, Nat.zero_le _, rfl⟩, ?_⟩
  clear e6 n6 e8 n8 e08 g8
  rintro k s ⟨i, M', r, rfl, eM, gM0, hi, rfl⟩
  have gM : GrN M M' r (resizeF b C zeroC :: List.replicate i (List.replicate C zeroC)) := gM0
  clear gM0
  refine compose_Screen_l1_wp (I := s1I M R C b tv) (step_lss (wpIf.dec (fun h1 => ?_) (fun h1 => ?_)))
  · refine ⟨zeroC.val, rfl, new_W (eM.ok hM) (by omega) fun M4 r3 e4 n4 => ?_⟩
    rw [Int.toNat_natCast] at n4
    obtain ⟨l, M6, hl, e6, v7, M8, ha, e8, g8, _⟩ := appG (bytes := 24) (z := .slice none 0 0) (eM.trans e4) hM (gM.ext e4) (.inl (New.old eM n4)) (by simp; omega) (by decide)
    refine ⟨l, M6, hl, v7, M8, ha, step_add (by omega) (by omega) ⟨R - 1 - (i + 1), by omega, i + 1, M8, v7, rfl, e8, ?_, by omega, rfl⟩⟩
    have : resizeF b C zeroC :: List.replicate (i + 1) (List.replicate C zeroC) = (resizeF b C zeroC :: List.replicate i (List.replicate C zeroC)) ++ [List.replicate C zeroC] := by
      rw [List.replicate_succ']; rfl
    rw [this]; exact g8
  have hiR : i = R - 1 := by omega
  subst hiR
  have gM : GrN M M' r (screen0 R C b) := gM
  have sc0 := scr0 R C (by omega) b
  unfold screenF at q
  generalize screen0 R C b = S at gM sc0 q
  refine compose_Screen_l1_out (compose_Screen_c0_wp ?_)
  refine step_lenS hT ?_
  rw [hTrl]
  refine ⟨compose_Screen_l3_m, s3I M R C S T tv, ⟨T.length, 0, M', r, rfl, eM, gM, Nat.zero_le _, rfl⟩, ?_⟩
  clear eM gM h1 hi
  rintro k s ⟨i, M', r, rfl, eM, gM0, hi, rfl⟩
  have gM : GrN M M' r ((T.take i).foldl (fun G a => tileF R C a G) S) := gM0
  clear gM0
  refine compose_Screen_l3_wp (I := s3I M R C S T tv) (step_lss (wpIf.dec (fun h1 => ?_) (fun h1 => ?_)))
  rotate_left
  · have : i = T.length := by omega
    subst this
    rw [List.take_length] at gM
    exact compose_Screen_l3_out (compose_Screen_c2_wp (q M' r eM gM))
  obtain ⟨a, ha⟩ : ∃ a, T[i]? = some a := ⟨_, List.getElem?_eq_getElem (by omega)⟩
  have hra : T.row[i]? = some a.1 := by show (T.map _)[i]? = _; rw [List.getElem?_map, ha]; rfl
  have oka := okT a (List.mem_of_getElem? ha)
  have gra := hG a (List.mem_of_getElem? ha)
  have sc : Scr ((T.take i).foldl (fun G a => tileF R C a G) S) R C := by
    have : ∀ (U : Tls) (G : Gd), Scr G R C → Scr (U.foldl (fun G a => tileF R C a G) G) R C := by
      intro U
      induction U with
      | nil => exact fun G h => h
      | cons x U ih => exact fun G h => ih _ (h.tileTo x R)
    exact this _ _ sc0
  have hnext : (T.take (i + 1)).foldl (fun G a => tileF R C a G) S = tileF R C a ((T.take i).foldl (fun G a => tileF R C a G) S) := by
    obtain ⟨g1, g2⟩ := List.getElem?_eq_some_iff.1 ha
    rw [List.take_succ_eq_append_getElem g1, List.foldl_append, g2]; rfl
  generalize (T.take i).foldl (fun G a => tileF R C a G) S = G at gM sc hnext
  have w := clip_within (a := a.1.r) (R := R) (C := C) (by omega) (by omega)
  have hmx : max 0 a.1.r.r ≤ 100 ∧ max 0 a.1.r.c ≤ 100 := by have := oka.r; have := oka.c; omega
  have ar : a.1.r.ok := by
    have := oka.t; have := oka.l; have := oka.r; have := oka.c
    exact ⟨⟨by omega, by omega⟩, ⟨by omega, by omega⟩, ⟨by omega, by omega⟩, ⟨by omega, by omega⟩⟩
  refine rd (hT.ext eM) (by omega) (by rw [Int.toNat_natCast]; exact hra) fun _ => ⟨rfl, fun b4 M5 hb4 hM5 => ⟨⟨rfl, rfl, by decide⟩, fun M6 hM6 => ?_⟩⟩
  have e5 : Ext M' M5 := Ext.push' hM5
  have s5 : M5.size = M'.size + 1 := by rw [hM5]; rfl
  have e6 : Ext M' M6 := hM6 ▸ e5.set (by omega) (by omega) _
  have s6 : M6.size = M5.size := by rw [hM6]; rfl
  refine LGetN.as a.1.r.val (by exact Nat.le_of_ble_eq_true rfl) rfl ?_
  refine clip_W (e6.ok (eM.ok hM)) ar ⟨by omega, by omega⟩ ⟨by omega, by omega⟩ fun M9 e9 => ⟨e9.keep _, rfl, fun b10 M11 hb10 hM11 => ⟨⟨rfl, rfl, by decide⟩, fun M12 hM12 => ?_⟩⟩
  have s9 := e9.size
  have e11 : Ext M9 M11 := Ext.push' hM11
  have s11 : M11.size = M9.size + 1 := by rw [hM11]; rfl
  have e12 : Ext M9 M12 := hM12 ▸ e11.set (by omega) (by omega) _
  have s12 : M12.size = M11.size := by rw [hM12]; rfl
  have e012 : Ext M' M12 := (e6.trans e9).trans e12
  refine LGet.mk (v := .int .i64 (clipF a.1.r R C).t) rfl (step_max ?_)
  obtain ⟨i0, hi0⟩ : ∃ i0 : Nat, max 1 (clipF a.1.r R C).t = i0 := ⟨(max 1 (clipF a.1.r R C).t).toNat, by omega⟩
  rw [hi0]
  have hb4r : ∀ x, blk r = some x → x < M'.size := fun x hx => grn_lt gM hx
  refine ⟨compose_Screen_l5_m, s5I M R C T G a tv r i b4 b10, ⟨600 - i0, i0, M12, ?_, eM.trans e012, ?_, by omega, by have := w.b; have := w.r; omega, rfl⟩, ?_⟩
  · rfl
  · rw [tileTo_none (by omega)]; exact gM.ext e012
  have lt4 : b4 < M12.size := by omega
  have lt10 : b10 < M12.size := by omega
  have ge4 : M'.size ≤ b4 := by omega
  have ge10 : M'.size ≤ b10 := by omega
  have gra12 : Gr M12 a.1.v a.2 := gra.ext (eM.trans e012)
  clear hM5 hM6 hM11 hM12 e5 e6 e9 e11 e12 hi0 hb4 hb10
  rintro k s ⟨n, N, rfl, eN, gN0, hn, hn6, rfl⟩
  have gN : GrN M N r (tileTo R C a n G) := gN0
  clear gN0
  have graN : Gr N a.1.v a.2 := gra.ext eN
  have fin : (clipF a.1.r R C).t + (clipF a.1.r R C).r ≤ n ∨ (a.2.length : Int) ≤ (n : Int) - a.1.r.t → ∃ j, j < T.length - i ∧ s3I M R C S T tv j (compose_Screen_l3_s (.int .i64 R) (.int .i64 C) r tv (.int .i64 T.length) (.int .i64 ((i : Int) + 1)) [] N) := fun hh => by
    refine ⟨T.length - (i + 1), by omega, i + 1, N, r, rfl, eN, ?_, by omega, rfl⟩
    rw [hnext, ← tileTo_all (i := n) (by rw [sc.len]) hh]; exact gN
  have := oka.t
  have := oka.l
  have hw1 := w.t
  have hw2 := w.l
  have hw3 := w.r
  have hw4 := w.c
  have hw5 := w.b
  have hw6 := w.e
  refine compose_Screen_l5_wp (I := s5I M R C T G a tv r i b4 b10) ?_
  refine LGet.mk (v := .int .i64 (clipF a.1.r R C).t) rfl (LGet.mk (v := .int .i64 (clipF a.1.r R C).r) rfl (step_add (by omega) (by omega) (step_lss (wpIf.dec (fun g1 => ?_) (fun g1 => ?_)))))
  rotate_left
  · exact blockK.hit (blockK.n (seqK.n (compose_Screen_c4_wp (step_add (by omega) (by omega) (fin (.inl (by omega)))))))
  refine LGet.mk (v := .int .i64 a.1.r.t) rfl (step_sub (by omega) (by omega) (LGet.mk (v := a.1.v) rfl (step_lenG graN (step_lss (wpIf.dec (fun g2 => ?_) (fun g2 => ?_))))))
  rotate_left
  · exact blockK.hit (blockK.n (seqK.n (compose_Screen_c4_wp (step_add (by omega) (by omega) (fin (.inr (by omega)))))))
  have hcor := clip_corner (a := a.1.r) (R := R) (C := C) (by omega)
  obtain ⟨L, hL⟩ : ∃ L, G[n]? = some L := ⟨_, List.getElem?_eq_getElem (by rw [sc.len]; omega)⟩
  have hLl := sc.row L (List.mem_of_getElem? hL)
  have hLt : (tileTo R C a n G)[n]? = some L := by rw [tileTo_get, hL, Option.map_some, if_neg (by omega)]
  obtain ⟨O, hO⟩ : ∃ O, a.2[((n : Int) - a.1.r.t).toNat]? = some O := ⟨_, List.getElem?_eq_getElem (by omega)⟩
  have hOd : a.2.getD ((n : Int) - a.1.r.t).toNat [] = O := getD_some hO
  have hOl := oka.w O (List.mem_of_getElem? hO)
  have kN := eN.ok hM
  refine compose_Screen_c6_wp (I := s5I M R C T G a tv r i b4 b10) ?_
  refine rdN gN (by omega) (by rw [Int.toNat_natCast]; exact hLt) fun _ x mx => ?_
  refine LGet.mk (v := a.1.v) rfl (LGet.mk (v := .int .i64 a.1.r.t) rfl (step_sub (by omega) (by omega) ?_))
  refine rdG graN (by omega) hO fun _ y sy => ?_
  refine LGet.mk (v := .int .i64 (clipF a.1.r R C).l) rfl (LGet.mk (v := .int .i64 (clipF a.1.r R C).l) rfl (LGet.mk (v := .int .i64 a.1.r.l) rfl (step_sub (by omega) (by omega) (LGet.mk (v := .int .i64 (clipF a.1.r R C).c) rfl ?_))))
  refine lay_W kN mx.sl sy (by omega) hOl ⟨hw2, by rw [hLl]; omega⟩ ⟨by omega, by omega⟩ hw4 fun N14 r13 e14 h14 => ⟨e14.keep _, ?_⟩
  have e14' := eN.trans e14
  have m13 : Mine 53 M N14 r13 (layF L O (clipF a.1.r R C).l ((clipF a.1.r R C).l - a.1.r.l) (clipF a.1.r R C).c) := by
    rcases h14 with h14 | ⟨rfl, rfl, h14⟩
    · exact .inl (New.old eN h14)
    · rw [h14]; exact mx
  obtain ⟨p, hp, u, N17, hs, e17, g17, k17⟩ := setG e14' hM (gN.ext e14) (i := n) (by rw [tileTo_len, sc.len]; omega) m13 (j := .i64)
  refine ⟨p, hp, u, N17, hs, ?_, step_add (by omega) (by omega) ⟨600 - (n + 1), by omega, n + 1, N17, rfl, e17, ?_, by omega, by omega, rfl⟩⟩
  · intro x hx hxs
    refine k17 x hxs fun hbl => ?_
    have := hb4r x hbl
    simp only [List.mem_cons, List.not_mem_nil, or_false] at hx
    omega
  · have := tileTo_step (R := R) (C := C) (a := a) (i := n) hL ⟨hn, g1, g2⟩
    rw [hOd] at this
    show GrN M N17 r (tileTo R C a ((n + 1 : Nat) : Int) G)
    rw [show ((n + 1 : Nat) : Int) = (n : Int) + 1 by omega, this]
    exact g17
end
end Go.Proofs.Ytkelbhcaecojkaa.Run
