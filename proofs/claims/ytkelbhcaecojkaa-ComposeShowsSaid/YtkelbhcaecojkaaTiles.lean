/- Chapter 30: tiles out of drafts. -/
import Derived.Test.YtkelbhcaecojkaaCompP
import Derived.Test.YtkelbhcaecojkaaVcQ
import Derived.Test.YtkelbhcaecojkaaGridB
namespace Go.Proofs.Ytkelbhcaecojkaa.Run
open Go Go.RowKit
set_option linter.unusedVariables false
set_option linter.unusedSimpArgs false
section
variable {M : Mem} {Q : Value → Mem → Prop}
theorem screen_W (hM : M.base ≤ M.size) {R C : Int} (hR : 2 ≤ R ∧ R ≤ 512) (hC : 1 ≤ C ∧ C ≤ 512) (q : Q (.bool true) M) : W funs known (.func (.func n_pane_screen) #[] #[]) [.int .i64 R, .int .i64 C] M Q :=
  pane_screen_wp hM (step_geq (by rw [decide_eq_true (by omega)]; exact wpIf.tt (step_leq (by rw [decide_eq_true (by omega)]; exact wpIf.tt (step_geq (by rw [decide_eq_true (by omega)]; exact wpIf.tt (step_leq (by rw [decide_eq_true (by omega)]; exact q))))))))
theorem apart0_W (hM : M.base ≤ M.size) (q : Q (.bool true) M) : W funs known (.func (.func n_pane_Apart) #[] #[]) [.slice none 0 0] M Q := by
  refine pane_Apart_wp hM (step_len ⟨pane_Apart_l1_m, fun k s => s = pane_Apart_l1_s (.slice none 0 0) (.slice none 0 0) (.int .i64 0) (.int .i64 0) [] M, ⟨0, rfl⟩, ?_⟩)
  rintro k s rfl
  exact pane_Apart_l1_wp (I := fun k s => s = pane_Apart_l1_s (.slice none 0 0) (.slice none 0 0) (.int .i64 0) (.int .i64 0) [] M) (s_ltF (by decide) (wpIf.ff (blockK.hit (pane_Apart_c0_wp q))))
theorem check0_W (hM : M.base ≤ M.size) {R C : Int} (hR : 2 ≤ R ∧ R ≤ 512) (hC : 1 ≤ C ∧ C ≤ 512) (q : Q (.int .i64 0) M) : W funs known (.func (.func n_pane_Check) #[] #[]) [.int .i64 R, .int .i64 C, .slice none 0 0] M Q := by
  refine pane_Check_wp hM (screen_W hM hR hC ⟨_, rfl, wpIf.ff (step_len ⟨pane_Check_l1_m, fun k s => s = pane_Check_l1_s (.int .i64 R) (.int .i64 C) (.slice none 0 0) (.slice none 0 0) (.int .i64 0) (.int .i64 0) [] M, ⟨0, rfl⟩, ?_⟩)⟩)
  rintro k s rfl
  exact pane_Check_l1_wp (I := fun k s => s = pane_Check_l1_s (.int .i64 R) (.int .i64 C) (.slice none 0 0) (.slice none 0 0) (.int .i64 0) (.int .i64 0) [] M) (s_ltF (by decide) (wpIf.ff (blockK.hit (pane_Check_c0_wp (apart0_W hM ⟨_, rfl, wpIf.ff q⟩)))))
end
end Go.Proofs.Ytkelbhcaecojkaa.Run
namespace Go.Proofs.Ytkelbhcaecojkaa.Run
open Go Go.RowKit
set_option linter.unusedVariables false
set_option linter.unusedSimpArgs false
theorem wrG {M₀ M : Mem} (e : Ext M₀ M) (hb : M₀.base ≤ M₀.size) {ty : TypeId} {v : Value} {R : List Vl} (h : New ty M₀ M v R) {i : Nat} (hi : i < R.length) {x : Value} (hx1 : x.cells.toList = [x]) (hx2 : notTup x = true) {j : IntKind} :
    ∃ p, opSem (.addrL 1 (.const v) (.const (.int j (i : Int)))) [] M = some (p, M) ∧ ∃ u M', opSem (.store 1 (.const p) (.const x)) [] M = some (u, M') ∧ Ext M₀ M' ∧ New ty M₀ M' v (R.set i ⟨x⟩) ∧ ∀ c, c < M.size → blk v ≠ some c → M'.get c = M.get c := by
  obtain ⟨b, sp, rfl, h1, h2⟩ := h
  have hbs := Mem.lt_of_get h1
  have eb := e.base
  refine ⟨.pointer (some ⟨b, 0 + i * 1, none⟩), ?_, undef, M.set b (.cells (flat (R.set i ⟨x⟩)) ty true), ?_, e.set h2 hbs _, ⟨b, sp, by rw [List.length_set], by rw [Mem.get_set _ _ _ hbs, if_pos rfl], h2⟩, fun c hc hne => ?_⟩
  · simp only [opSem, ev]
    rw [if_pos ⟨by omega, by omega⟩, Int.toNat_natCast]
  · have hsz : x.cells.size = 1 := by have := congrArg List.length hx1; simpa using this
    have hput : splice (flat R) (0 + i * 1) [x] = flat (R.set i ⟨x⟩) := by
      have := flat_put (E := inferInstance) (L := R) (i := i) (a := R[i]) (a' := (⟨x⟩ : Vl)) (List.getElem?_eq_getElem hi) (f := 0) (vs := [x]) (Nat.le_refl 1) rfl
      rw [Nat.zero_add]; exact this
    have hlen : (flat R).length = R.length * 1 := flat_len R
    have : M.storeQ b (0 + i * 1) [x] = some (M.set b (.cells (flat (R.set i ⟨x⟩)) ty true)) := by
      simp only [Mem.storeQ, Mem.storeN, h1]
      rw [if_pos ⟨by omega, by rw [hlen, List.length_singleton]; omega⟩, hput]
    simp only [opSem, ev, hsz, hx2, hx1, and_self, if_true, this, Option.map_some]
  · rw [Mem.get_set _ _ _ hbs, if_neg]
    intro hcb; exact hne (by simp [blk, hcb])
theorem copy2 {M₀ M : Mem} (e : Ext M₀ M) (hb : M₀.base ≤ M₀.size) {v : Value} {L : List Ce} (h : New 53 M₀ M v L) {x m : Nat} (hm : 0 < m) (hx : x + m ≤ L.length) {j : IntKind} :
    ∃ d, opSem (.sliceL 14 (.const v) (some (.const (.int j (x : Int)))) (some (.const (.int j ((x : Int) + m)))) none) [] M = some (d, M) ∧
      ∀ {N M₁ : Mem} {w : Value} {S : List Ce} {f : Nat}, Ext M N → f + m ≤ S.length → New 53 M₁ N w S → ∃ s, opSem (.sliceL 14 (.const w) (some (.const (.int j (f : Int)))) none none) [] N = some (s, N) ∧
        ∃ u M', opSem (.copy 14 (.const d) (.const s)) [] N = some (u, M') ∧ Ext M₀ M' ∧ New 53 M₀ M' v (L.take x ++ (S.drop f).take m ++ L.drop (x + m)) := by
  obtain ⟨b, sp, rfl, h1, h2⟩ := h
  have hbs := Mem.lt_of_get h1
  have eb := e.base
  have hk : ∀ A : List Ce, (flat A).length = A.length * 14 := fun A => flat_len A
  refine ⟨.slice (some ⟨b, 0 + x * 14, sp⟩) m (L.length - x), ?_, fun {N M₁ w S f} eN hf hw => ?_⟩
  · have hbn : bounds L.length L.length (some (.int j (x : Int))) (some (.int j ((x : Int) + m))) none = some (x, x + m, L.length) := by
      simp only [bounds, optBound, boundV, Option.bind_some]
      rw [show ((x : Int) + m).toNat = x + m by omega]
      rw [if_pos ⟨by omega, by omega⟩]
      simp only [Option.bind_some]
      rw [if_pos ⟨by omega, by omega⟩]
      simp
    simp only [opSem, ev, Option.map_none, Option.map_some, hbn, Option.bind_some, Option.isSome_none, sliceV]
    rw [if_neg (by omega), if_neg (by omega), show x + m - x = m by omega]; rfl
  · obtain ⟨b', sp', rfl, h3, h4⟩ := hw
    refine ⟨.slice (some ⟨b', 0 + f * 14, sp'⟩) (S.length - f) (S.length - f), ?_, ?_⟩
    · have hbn : bounds S.length S.length (some (.int j (f : Int))) none none = some (f, S.length, S.length) := by
        simp only [bounds, optBound, boundV, Option.bind_some]
        rw [if_pos ⟨by omega, by omega⟩]
        simp
      simp only [opSem, ev, Option.map_none, Option.map_some, hbn, Option.bind_some, Option.isSome_none, sliceV]
      rw [if_neg (by omega), if_neg (by omega)]; rfl
    · have g1 : N.get b = some (.cells (flat L) 53 true) := eN.same h1
      have e2 := e.trans eN
      have eb2 := e2.base
      have hbN := Mem.lt_of_get g1
      have hBl : ((S.drop f).take m).length = m := by simp; omega
      have hsrc : srcOf N 14 (.slice (some ⟨b', 0 + f * 14, sp'⟩) (S.length - f) (S.length - f)) m = some (flat ((S.drop f).take m)) := by
        simp only [srcOf, Mem.loadN, h3]
        rw [if_pos (by rw [hk]; have : (f + m) * 14 ≤ S.length * 14 := Nat.mul_le_mul_right _ hf; omega), Nat.zero_add]
        have t1 : (flat S).drop (f * 14) = flat (S.drop f) := flat_drop S f
        have t2 : (flat (S.drop f)).take (m * 14) = flat ((S.drop f).take m) := flat_take (S.drop f) m
        rw [t1, t2]
      generalize (S.drop f).take m = B at hBl hsrc ⊢
      have hl : (L.take x ++ B ++ L.drop (x + m)).length = L.length := by simp only [List.length_append, List.length_take, List.length_drop]; omega
      have hst : N.storeN b (0 + x * 14) (flat B) = some (N.set b (.cells (flat (L.take x ++ B ++ L.drop (x + m))) 53 true)) := by
        simp only [Mem.storeN, g1]
        rw [if_pos ⟨by omega, by rw [hk, hk]; have : (x + B.length) * 14 ≤ L.length * 14 := Nat.mul_le_mul_right _ (by omega); omega⟩]
        congr 3
        unfold splice
        have t1 : (flat L).take (0 + x * 14) = flat (L.take x) := by rw [Nat.zero_add]; exact flat_take L x
        have t2 : (flat L).drop (0 + x * 14 + (flat B).length) = flat (L.drop (x + m)) := by
          rw [hk, Nat.zero_add, ← Nat.add_mul, hBl]; exact flat_drop L (x + m)
        rw [t1, t2, flat_append, flat_append]
      refine ⟨.int .i64 m, _, ?_, e2.set h2 hbN _, b, sp, by rw [hl], by rw [Mem.get_set _ _ _ hbN, if_pos rfl], h2⟩
      simp only [opSem, ev, copyV, lenV]
      rw [Nat.min_eq_right (by omega), if_neg (by omega), hsrc]
      simp only [hst, Option.map_some]
end Go.Proofs.Ytkelbhcaecojkaa.Run
namespace Go.Proofs.Ytkelbhcaecojkaa.Run
open Go Go.RowKit
set_option linter.unusedVariables false
set_option linter.unusedSimpArgs false
section
variable {M : Mem} {Q : Value → Mem → Prop}
theorem lay_W (hM : M.base ≤ M.size) {v w : Value} {L own : List Ce} (h : Sl M v L) (hO : Sl M w own) (hL : L.length ≤ 2 ^ 30) (hOl : own.length ≤ 2 ^ 30) {x f n : Int} (hx : 0 ≤ x ∧ x + n ≤ L.length) (hf : 0 ≤ f ∧ f ≤ 2 ^ 40) (hn : 0 ≤ n) (q : ∀ M' r, Ext M M' → (New 53 M M' r (layF L own x f n) ∨ (r = v ∧ M' = M ∧ layF L own x f n = L)) → Q r M') :
    W funs known (.func (.func n_compose_lay) #[] #[]) [v, w, .int .i64 x, .int .i64 f, .int .i64 n] M Q := by
  obtain ⟨a0, c0, rfl⟩ := h.shape
  obtain ⟨a1, c1, rfl⟩ := hO.shape
  refine compose_lay_wp hM (step_len (step_sub (by omega) (by omega) (step_min (step_leq (wpIf.dec (fun h0 => ?_) (fun h0 => ?_))))))
  · exact q M _ (Ext.refl _) (.inr ⟨rfl, rfl, by unfold layF; rw [if_pos h0]⟩)
  have hF : layF L own x f n = (brk2 L x (x + min n ((own.length : Int) - f))).take x.toNat ++ ((brk2 own f (f + min n ((own.length : Int) - f))).drop f.toNat).take (min n ((own.length : Int) - f)).toNat ++ (brk2 L x (x + min n ((own.length : Int) - f))).drop (x.toNat + (min n ((own.length : Int) - f)).toNat) := by unfold layF; rw [if_neg h0]
  have hmn : min n ((own.length : Int) - f) ≤ n ∧ min n ((own.length : Int) - f) ≤ (own.length : Int) - f := by omega
  generalize hmd : min n ((own.length : Int) - f) = m at h0 hF hmn ⊢
  obtain ⟨p, rfl⟩ : ∃ p : Nat, x = p := ⟨x.toNat, by omega⟩
  obtain ⟨g, rfl⟩ : ∃ g : Nat, f = g := ⟨f.toNat, by omega⟩
  obtain ⟨k, rfl⟩ : ∃ k : Nat, m = k := ⟨m.toNat, by omega⟩
  simp only [Int.toNat_natCast] at hF
  refine step_add (by omega) (by omega) ?_
  refine step_lit [(⟨(p : Int)⟩ : In), ⟨(p : Int) + k⟩] rfl rfl fun va M7 e7 n7 => ?_
  refine break_W (e7.ok hM) (h.ext e7) n7.sl hL (by simp) fun M9 r8 e9 n9 => ?_
  have e09 := e7.trans e9
  refine step_add (by omega) (by omega) ?_
  have n9 : New 53 M M9 r8 (brk2 L p (p + k)) := New.old e7 n9
  have hBl := brk2_len L (p : Int) (p + k)
  obtain ⟨d, hd, hcopy⟩ := copy2 e09 hM n9 (x := p) (m := k) (by omega) (by rw [hBl]; omega) (j := .i64)
  refine ⟨d, hd, step_add (by omega) (by omega) ?_⟩
  refine step_lit [(⟨(g : Int)⟩ : In), ⟨(g : Int) + k⟩] rfl rfl fun vb M14 e14 n14 => ?_
  have e014 := e09.trans e14
  refine break_W (e014.ok hM) (hO.ext e014) n14.sl hOl (by simp) fun M16 r15 e16 n16 => ?_
  have n16 : New 53 M14 M16 r15 (brk2 own g (g + k)) := n16
  obtain ⟨s, hs, u, M', hc, e', n'⟩ := hcopy (e14.trans e16) (f := g) (by rw [brk2_len]; omega) n16
  refine ⟨s, hs, u, M', hc, q M' r8 e' (.inl ?_)⟩
  rw [hF]; exact n'
end
end Go.Proofs.Ytkelbhcaecojkaa.Run
namespace Go.Proofs.Ytkelbhcaecojkaa.Run
open Go Go.RowKit
set_option linter.unusedVariables false
set_option linter.unusedSimpArgs false
section
variable {M₀ M M' : Mem} {v : Value} {G : Gd}
theorem rdN (h : GrN M₀ M v G) {i : Int} {L : List Ce} (h0 : 0 ≤ i) (hi : G[i.toNat]? = some L) {j : IntKind} {P : Value → Value → Prop} (q : ∀ p x, Mine 53 M₀ M x L → P p x) :
    ∃ p, opSem (.addrL 1 (.const v) (.const (.int j i))) [] M = some (p, M) ∧ ∃ x, opSem (.load none (.const p)) [] M = some (x, M) ∧ P p x := by
  obtain ⟨R, h1, h2, rfl⟩ := h
  rw [List.getElem?_map] at hi
  obtain ⟨⟨x, L'⟩, hr, hL⟩ := Option.map_eq_some_iff.1 hi
  cases hL
  exact rd1 h1.sl h0 (a := (⟨x⟩ : Vl)) (by show (R.map _)[_]? = _; rw [List.getElem?_map, hr]; rfl) rfl fun p => q p x (h2 _ (List.mem_of_getElem? hr))
theorem setG (e : Ext M₀ M) (hb : M₀.base ≤ M₀.size) (h : GrN M₀ M v G) {i : Nat} (hi : i < G.length) {x : Value} {L : List Ce} (hL : Mine 53 M₀ M x L) {j : IntKind} :
    ∃ p, opSem (.addrL 1 (.const v) (.const (.int j (i : Int)))) [] M = some (p, M) ∧ ∃ u M', opSem (.store 1 (.const p) (.const x)) [] M = some (u, M') ∧ Ext M₀ M' ∧ GrN M₀ M' v (G.set i L) ∧ (∀ c, c < M.size → blk v ≠ some c → M'.get c = M.get c) := by
  obtain ⟨P, h1, h2, rfl⟩ := h
  have hiP : i < P.length := by simpa using hi
  have hn : New 35 M₀ M v P.row := by
    rcases h1 with h1 | ⟨h0, _⟩
    · exact h1
    · have : P.row.length = 0 := by rw [h0]; rfl
      rw [List.length_map] at this; omega
  obtain ⟨p, hp, u, M', hs, e', n', k⟩ := wrG e hb hn (i := i) (by simpa using hiP) (x := x) (by rw [(SlH.cells (.inl hL.sl)).1]) (SlH.cells (.inl hL.sl)).2.1 (j := j)
  refine ⟨p, hp, u, M', hs, e', ⟨P.set i (x, L), .inl ?_, ?_, by rw [List.map_set]⟩, k⟩
  · have : Parts.row (P.set i (x, L)) = P.row.set i ⟨x⟩ := by simp [Parts.row, List.map_set]
    rw [this]; exact n'
  · intro a ha
    rcases List.mem_or_eq_of_mem_set ha with ha | rfl
    · exact mine_keep h1 (h2 a ha) (by decide) k
    · exact mine_keep h1 hL (by decide) k
theorem grn_lt (h : GrN M₀ M v G) {x : Nat} (hb : blk v = some x) : x < M.size := by
  obtain ⟨P, h1, _, _⟩ := h
  exact mine_lt h1 hb
structure TlOK (a : Tl × Gd) : Prop where
  t : -100 ≤ a.1.r.t ∧ a.1.r.t ≤ 100
  l : -100 ≤ a.1.r.l ∧ a.1.r.l ≤ 100
  r : -100 ≤ a.1.r.r ∧ a.1.r.r ≤ 100
  c : -100 ≤ a.1.r.c ∧ a.1.r.c ≤ 100
  n : a.2.length ≤ 2 ^ 20
  w : ∀ L ∈ a.2, L.length ≤ 2 ^ 30
end
theorem tileTo_step {R C : Int} {a : Tl × Gd} {i : Nat} {G : Gd} {L : List Ce} (hL : G[i]? = some L) (h : max 1 (clipF a.1.r R C).t ≤ i ∧ (i : Int) < (clipF a.1.r R C).t + (clipF a.1.r R C).r ∧ (i : Int) - a.1.r.t < a.2.length) :
    tileTo R C a ((i : Int) + 1) G = (tileTo R C a i G).set i (layF L (a.2.getD ((i : Int) - a.1.r.t).toNat []) (clipF a.1.r R C).l ((clipF a.1.r R C).l - a.1.r.l) (clipF a.1.r R C).c) := by
  refine List.ext_getElem? fun k => ?_
  rw [List.getElem?_set, tileTo_get, tileTo_get, tileTo_len]
  by_cases hk : i = k
  · subst hk
    rw [if_pos rfl, if_pos (List.getElem?_eq_some_iff.1 hL).1, hL, Option.map_some, if_pos ⟨h.1, h.2.1, h.2.2, by omega⟩]
  · rw [if_neg hk]
    congr 1
    funext K
    split <;> split <;> first | rfl | (exfalso; omega)
theorem tileTo_all {R C : Int} {a : Tl × Gd} {i : Nat} {G : Gd} (hG : (G.length : Int) = R) (h : (clipF a.1.r R C).t + (clipF a.1.r R C).r ≤ i ∨ (a.2.length : Int) ≤ (i : Int) - a.1.r.t) : tileTo R C a i G = tileF R C a G := by
  unfold tileF
  refine List.ext_getElem? fun k => ?_
  rw [tileTo_get, tileTo_get]
  by_cases hk : k < G.length
  · congr 1
    funext K
    split <;> split <;> first | rfl | (exfalso; omega)
  · rw [List.getElem?_eq_none (by omega)]; rfl
theorem tileTo_none {R C : Int} {a : Tl × Gd} {i : Int} {G : Gd} (h : i ≤ max 1 (clipF a.1.r R C).t) : tileTo R C a i G = G := by
  refine List.ext_getElem? fun k => ?_
  rw [tileTo_get]
  have : (fun L : List Ce => if max 1 (clipF a.1.r R C).t ≤ k ∧ (k : Int) < (clipF a.1.r R C).t + (clipF a.1.r R C).r ∧ (k : Int) - a.1.r.t < a.2.length ∧ (k : Int) < i then layF L (a.2.getD ((k : Int) - a.1.r.t).toNat []) (clipF a.1.r R C).l ((clipF a.1.r R C).l - a.1.r.l) (clipF a.1.r R C).c else L) = id := by
    funext L
    rw [if_neg (by omega)]; rfl
  rw [this, Option.map_id]; rfl
section
variable {M : Mem} {Q : Value → Mem → Prop}
abbrev s1I (M : Mem) (R C : Nat) (b : List Ce) (tv : Value) : Nat → LS → Prop := fun k s => ∃ (i : Nat) (M' : Mem) (r : Value), s = compose_Screen_l1_s (.int .i64 R) (.int .i64 C) tv r (.int .i64 ((R : Int) - 1)) (.int .i64 i) [] M' ∧ Ext M M' ∧ GrN M M' r (resizeF b C zeroC :: List.replicate i (List.replicate C zeroC)) ∧ i ≤ R - 1 ∧ k = R - 1 - i
abbrev s3I (M : Mem) (R C : Nat) (S : Gd) (T : Tls) (tv : Value) : Nat → LS → Prop := fun k s => ∃ (i : Nat) (M' : Mem) (r : Value), s = compose_Screen_l3_s (.int .i64 R) (.int .i64 C) r tv (.int .i64 T.length) (.int .i64 i) [] M' ∧ Ext M M' ∧ GrN M M' r ((T.take i).foldl (fun G a => tileF R C a G) S) ∧ i ≤ T.length ∧ k = T.length - i
abbrev s5I (M : Mem) (R C : Nat) (T : Tls) (G : Gd) (a : Tl × Gd) (tv r : Value) (i3 : Nat) (b4 b10 : Nat) : Nat → LS → Prop := fun k s => ∃ (i : Nat) (M' : Mem), s = compose_Screen_l5_s (.int .i64 R) (.int .i64 C) r (.int .i64 i) tv (.int .i64 T.length) (.int .i64 i3) b4 (Enc.enc a.1) b10 [.int .i64 (clipF a.1.r R C).t, .int .i64 (clipF a.1.r R C).l, .int .i64 (clipF a.1.r R C).r, .int .i64 (clipF a.1.r R C).c] [] M' ∧ Ext M M' ∧ GrN M M' r (tileTo R C a i G) ∧ max 1 (clipF a.1.r R C).t ≤ i ∧ i ≤ 600 ∧ k = 600 - i
theorem screen30_W (hM : M.base ≤ M.size) {R C : Nat} (hR : 2 ≤ R ∧ R ≤ 512) (hC : 1 ≤ C ∧ C ≤ 512) {bv tv : Value} {b : List Ce} {T : Tls} (hb : Sl M bv b) (hbl : b.length ≤ 2 ^ 30) (hT : Sl M tv T.row) (hTl : T.length ≤ 2 ^ 20) (hG : ∀ a ∈ T, Gr M a.1.v a.2) (okT : ∀ a ∈ T, TlOK a) (q : ∀ M' r, Ext M M' → GrN M M' r (screenF R C b T) → Q (.tuple #[r, .int .i64 0]) M') :
    W funs known (.func (.func n_compose_Screen) #[] #[]) [.int .i64 R, .int .i64 C, bv, tv] M Q := by
  have hTrl : T.row.length = T.length := by simp
  obtain ⟨ab, cb, rfl⟩ := hb.shape
  obtain ⟨at', ct, htv⟩ := hT.shape
  subst htv
  refine compose_Screen_wp hM (check0_W hM (by omega) (by omega) (s_neF (by simp) (wpIf.ff ⟨zeroC.val, rfl, ?_⟩)))
  refine resize_W hM hb hbl (by omega) fun M6 r5 e6 n6 => ?_
  rw [Int.toNat_natCast] at n6
  refine step_lit [(⟨r5⟩ : Vl)] (fill1 n6.sl.srcs) rfl fun v7 M8 e8 n8 => step_sub (by omega) (by omega) ?_
  have e08 := e6.trans e8
  have g8 : GrN M M8 v7 (resizeF b C zeroC :: List.replicate 0 (List.replicate C zeroC)) := ⟨[(r5, resizeF b C zeroC)], .inl (New.old e6 n8), fun p hp => by rw [List.mem_singleton] at hp; subst hp; exact .inl (n6.ext e8), rfl⟩
  generalize htv : Value.slice at' T.row.length ct = tv at *
  refine ⟨compose_Screen_l1_m, s1I M R C b tv, ⟨R - 1, 0, M8, v7, rfl, e08, g8, Nat.zero_le _, rfl⟩, ?_⟩
  clear e6 n6 e8 n8 e08 g8
  rintro k s ⟨i, M', r, rfl, eM, gM0, hi, rfl⟩
  have gM : GrN M M' r (resizeF b C zeroC :: List.replicate i (List.replicate C zeroC)) := gM0
  clear gM0
  refine compose_Screen_l1_wp (I := s1I M R C b tv) (step_lss (wpIf.dec (fun h1 => ?_) (fun h1 => ?_)))
  · refine ⟨zeroC.val, rfl, new_W (eM.ok hM) (by omega) fun M4 r3 e4 n4 => ?_⟩
    rw [Int.toNat_natCast] at n4
    obtain ⟨l, M6, hl, e6, v7, M8, ha, e8, g8, _⟩ := appG (bytes := 24) (z := .slice none 0 0) (eM.trans e4) hM (gM.ext e4) (.inl (New.old eM n4)) (by simp; omega) (by decide)
    refine ⟨l, M6, hl, v7, M8, ha, step_add (by omega) (by omega) ⟨R - 1 - (i + 1), by omega, i + 1, M8, v7, rfl, e8, ?_, by omega, rfl⟩⟩
    have : resizeF b C zeroC :: List.replicate (i + 1) (List.replicate C zeroC) = (resizeF b C zeroC :: List.replicate i (List.replicate C zeroC)) ++ [List.replicate C zeroC] := by
      rw [List.replicate_succ']; rfl
    rw [this]; exact g8
  have hiR : i = R - 1 := by omega
  subst hiR
  have gM : GrN M M' r (screen0 R C b) := gM
  have sc0 := scr0 R C (by omega) b
  unfold screenF at q
  generalize screen0 R C b = S at gM sc0 q
  refine compose_Screen_l1_out (compose_Screen_c0_wp ?_)
  refine step_lenS hT ?_
  rw [hTrl]
  refine ⟨compose_Screen_l3_m, s3I M R C S T tv, ⟨T.length, 0, M', r, rfl, eM, gM, Nat.zero_le _, rfl⟩, ?_⟩
  clear eM gM h1 hi
  rintro k s ⟨i, M', r, rfl, eM, gM0, hi, rfl⟩
  have gM : GrN M M' r ((T.take i).foldl (fun G a => tileF R C a G) S) := gM0
  clear gM0
  refine compose_Screen_l3_wp (I := s3I M R C S T tv) (step_lss (wpIf.dec (fun h1 => ?_) (fun h1 => ?_)))
  rotate_left
  · have : i = T.length := by omega
    subst this
    rw [List.take_length] at gM
    exact compose_Screen_l3_out (compose_Screen_c2_wp (q M' r eM gM))
  obtain ⟨a, ha⟩ : ∃ a, T[i]? = some a := ⟨_, List.getElem?_eq_getElem (by omega)⟩
  have hra : T.row[i]? = some a.1 := by show (T.map _)[i]? = _; rw [List.getElem?_map, ha]; rfl
  have oka := okT a (List.mem_of_getElem? ha)
  have gra := hG a (List.mem_of_getElem? ha)
  have sc : Scr ((T.take i).foldl (fun G a => tileF R C a G) S) R C := by
    have : ∀ (U : Tls) (G : Gd), Scr G R C → Scr (U.foldl (fun G a => tileF R C a G) G) R C := by
      intro U
      induction U with
      | nil => exact fun G h => h
      | cons x U ih => exact fun G h => ih _ (h.tileTo x R)
    exact this _ _ sc0
  have hnext : (T.take (i + 1)).foldl (fun G a => tileF R C a G) S = tileF R C a ((T.take i).foldl (fun G a => tileF R C a G) S) := by
    obtain ⟨g1, g2⟩ := List.getElem?_eq_some_iff.1 ha
    rw [List.take_succ_eq_append_getElem g1, List.foldl_append, g2]; rfl
  generalize (T.take i).foldl (fun G a => tileF R C a G) S = G at gM sc hnext
  have w := clip_within (a := a.1.r) (R := R) (C := C) (by omega) (by omega)
  have hmx : max 0 a.1.r.r ≤ 100 ∧ max 0 a.1.r.c ≤ 100 := by have := oka.r; have := oka.c; omega
  have ar : a.1.r.ok := by
    have := oka.t; have := oka.l; have := oka.r; have := oka.c
    exact ⟨⟨by omega, by omega⟩, ⟨by omega, by omega⟩, ⟨by omega, by omega⟩, ⟨by omega, by omega⟩⟩
  refine rd (hT.ext eM) (by omega) (by rw [Int.toNat_natCast]; exact hra) fun _ => ⟨rfl, fun b4 M5 hb4 hM5 => ⟨⟨rfl, rfl, by decide⟩, fun M6 hM6 => ?_⟩⟩
  have e5 : Ext M' M5 := Ext.push' hM5
  have s5 : M5.size = M'.size + 1 := by rw [hM5]; rfl
  have e6 : Ext M' M6 := hM6 ▸ e5.set (by omega) (by omega) _
  have s6 : M6.size = M5.size := by rw [hM6]; rfl
  refine LGetN.as a.1.r.val (by exact Nat.le_of_ble_eq_true rfl) rfl ?_
  refine clip_W (e6.ok (eM.ok hM)) ar ⟨by omega, by omega⟩ ⟨by omega, by omega⟩ fun M9 e9 => ⟨e9.keep _, rfl, fun b10 M11 hb10 hM11 => ⟨⟨rfl, rfl, by decide⟩, fun M12 hM12 => ?_⟩⟩
  have s9 := e9.size
  have e11 : Ext M9 M11 := Ext.push' hM11
  have s11 : M11.size = M9.size + 1 := by rw [hM11]; rfl
  have e12 : Ext M9 M12 := hM12 ▸ e11.set (by omega) (by omega) _
  have s12 : M12.size = M11.size := by rw [hM12]; rfl
  have e012 : Ext M' M12 := (e6.trans e9).trans e12
  refine LGet.mk (v := .int .i64 (clipF a.1.r R C).t) rfl (step_max ?_)
  obtain ⟨i0, hi0⟩ : ∃ i0 : Nat, max 1 (clipF a.1.r R C).t = i0 := ⟨(max 1 (clipF a.1.r R C).t).toNat, by omega⟩
  rw [hi0]
  have hb4r : ∀ x, blk r = some x → x < M'.size := fun x hx => grn_lt gM hx
  refine ⟨compose_Screen_l5_m, s5I M R C T G a tv r i b4 b10, ⟨600 - i0, i0, M12, ?_, eM.trans e012, ?_, by omega, by have := w.b; have := w.r; omega, rfl⟩, ?_⟩
  · rfl
  · rw [tileTo_none (by omega)]; exact gM.ext e012
  have lt4 : b4 < M12.size := by omega
  have lt10 : b10 < M12.size := by omega
  have ge4 : M'.size ≤ b4 := by omega
  have ge10 : M'.size ≤ b10 := by omega
  have gra12 : Gr M12 a.1.v a.2 := gra.ext (eM.trans e012)
  clear hM5 hM6 hM11 hM12 e5 e6 e9 e11 e12 hi0 hb4 hb10
  rintro k s ⟨n, N, rfl, eN, gN0, hn, hn6, rfl⟩
  have gN : GrN M N r (tileTo R C a n G) := gN0
  clear gN0
  have graN : Gr N a.1.v a.2 := gra.ext eN
  have fin : (clipF a.1.r R C).t + (clipF a.1.r R C).r ≤ n ∨ (a.2.length : Int) ≤ (n : Int) - a.1.r.t → ∃ j, j < T.length - i ∧ s3I M R C S T tv j (compose_Screen_l3_s (.int .i64 R) (.int .i64 C) r tv (.int .i64 T.length) (.int .i64 ((i : Int) + 1)) [] N) := fun hh => by
    refine ⟨T.length - (i + 1), by omega, i + 1, N, r, rfl, eN, ?_, by omega, rfl⟩
    rw [hnext, ← tileTo_all (i := n) (by rw [sc.len]) hh]; exact gN
  have := oka.t
  have := oka.l
  have hw1 := w.t
  have hw2 := w.l
  have hw3 := w.r
  have hw4 := w.c
  have hw5 := w.b
  have hw6 := w.e
  refine compose_Screen_l5_wp (I := s5I M R C T G a tv r i b4 b10) ?_
  refine LGet.mk (v := .int .i64 (clipF a.1.r R C).t) rfl (LGet.mk (v := .int .i64 (clipF a.1.r R C).r) rfl (step_add (by omega) (by omega) (step_lss (wpIf.dec (fun g1 => ?_) (fun g1 => ?_)))))
  rotate_left
  · exact blockK.hit (blockK.n (seqK.n (compose_Screen_c4_wp (step_add (by omega) (by omega) (fin (.inl (by omega)))))))
  refine LGet.mk (v := .int .i64 a.1.r.t) rfl (step_sub (by omega) (by omega) (LGet.mk (v := a.1.v) rfl (step_lenG graN (step_lss (wpIf.dec (fun g2 => ?_) (fun g2 => ?_))))))
  rotate_left
  · exact blockK.hit (blockK.n (seqK.n (compose_Screen_c4_wp (step_add (by omega) (by omega) (fin (.inr (by omega)))))))
  have hcor := clip_corner (a := a.1.r) (R := R) (C := C) (by omega)
  obtain ⟨L, hL⟩ : ∃ L, G[n]? = some L := ⟨_, List.getElem?_eq_getElem (by rw [sc.len]; omega)⟩
  have hLl := sc.row L (List.mem_of_getElem? hL)
  have hLt : (tileTo R C a n G)[n]? = some L := by rw [tileTo_get, hL, Option.map_some, if_neg (by omega)]
  obtain ⟨O, hO⟩ : ∃ O, a.2[((n : Int) - a.1.r.t).toNat]? = some O := ⟨_, List.getElem?_eq_getElem (by omega)⟩
  have hOd : a.2.getD ((n : Int) - a.1.r.t).toNat [] = O := getD_some hO
  have hOl := oka.w O (List.mem_of_getElem? hO)
  have kN := eN.ok hM
  refine compose_Screen_c6_wp (I := s5I M R C T G a tv r i b4 b10) ?_
  refine rdN gN (by omega) (by rw [Int.toNat_natCast]; exact hLt) fun _ x mx => ?_
  refine LGet.mk (v := a.1.v) rfl (LGet.mk (v := .int .i64 a.1.r.t) rfl (step_sub (by omega) (by omega) ?_))
  refine rdG graN (by omega) hO fun _ y sy => ?_
  refine LGet.mk (v := .int .i64 (clipF a.1.r R C).l) rfl (LGet.mk (v := .int .i64 (clipF a.1.r R C).l) rfl (LGet.mk (v := .int .i64 a.1.r.l) rfl (step_sub (by omega) (by omega) (LGet.mk (v := .int .i64 (clipF a.1.r R C).c) rfl ?_))))
  refine lay_W kN mx.sl sy (by omega) hOl ⟨hw2, by rw [hLl]; omega⟩ ⟨by omega, by omega⟩ hw4 fun N14 r13 e14 h14 => ⟨e14.keep _, ?_⟩
  have e14' := eN.trans e14
  have m13 : Mine 53 M N14 r13 (layF L O (clipF a.1.r R C).l ((clipF a.1.r R C).l - a.1.r.l) (clipF a.1.r R C).c) := by
    rcases h14 with h14 | ⟨rfl, rfl, h14⟩
    · exact .inl (New.old eN h14)
    · rw [h14]; exact mx
  obtain ⟨p, hp, u, N17, hs, e17, g17, k17⟩ := setG e14' hM (gN.ext e14) (i := n) (by rw [tileTo_len, sc.len]; omega) m13 (j := .i64)
  refine ⟨p, hp, u, N17, hs, ?_, step_add (by omega) (by omega) ⟨600 - (n + 1), by omega, n + 1, N17, rfl, e17, ?_, by omega, by omega, rfl⟩⟩
  · intro x hx hxs
    refine k17 x hxs fun hbl => ?_
    have := hb4r x hbl
    simp only [List.mem_cons, List.not_mem_nil, or_false] at hx
    omega
  · have := tileTo_step (R := R) (C := C) (a := a) (i := n) hL ⟨hn, g1, g2⟩
    rw [hOd] at this
    show GrN M N17 r (tileTo R C a ((n + 1 : Nat) : Int) G)
    rw [show ((n + 1 : Nat) : Int) = (n : Int) + 1 by omega, this]
    exact g17
end
end Go.Proofs.Ytkelbhcaecojkaa.Run
namespace Go.Proofs.Ytkelbhcaecojkaa.Run
open Go Go.RowKit
set_option linter.unusedVariables false
set_option linter.unusedSimpArgs false
structure Df where
  t : Int
  l : Int
  r : Int
  c : Int
  g : Int
  v : Value
instance : Enc Df := ⟨6, fun a => [.int .u8 a.t, .int .u8 a.l, .int .u8 a.r, .int .u8 a.c, .int .u8 a.g, a.v], fun _ => rfl, by decide⟩
structure Df.ok (a : Df) : Prop where
  t : 0 ≤ a.t ∧ a.t ≤ 255
  l : 0 ≤ a.l ∧ a.l ≤ 255
  r : 0 ≤ a.r ∧ a.r ≤ 255
  c : 0 ≤ a.c ∧ a.c ≤ 255
  g : 0 ≤ a.g ∧ a.g ≤ 255
abbrev Dfs := List (Df × Lns)
abbrev Dfs.row (D : Dfs) : List Df := D.map (·.1)
def DfsOK (M : Mem) (D : Dfs) : Prop := ∀ p ∈ D, p.1.ok ∧ SlH M p.1.v p.2.row ∧ LnsOK M p.2
theorem DfsOK.ext {M M' : Mem} (e : Ext M M') {D : Dfs} (h : DfsOK M D) : DfsOK M' D := fun p hp => ⟨(h p hp).1, (h p hp).2.1.ext e, (h p hp).2.2.ext e⟩
theorem lns_of {M : Mem} : ∀ {L : List Ln}, (∀ a ∈ L, ∃ D : List Dr, SlH M a.v D ∧ ∀ d ∈ D, d.ok) → ∃ T : Lns, T.row = L ∧ LnsOK M T
  | [], _ => ⟨[], rfl, fun p hp => by simp at hp⟩
  | a :: L, h => by
    obtain ⟨D, h1, h2⟩ := h a List.mem_cons_self
    obtain ⟨T, h3, h4⟩ := lns_of fun b hb => h b (List.mem_cons_of_mem _ hb)
    refine ⟨(a, D) :: T, by rw [← h3]; rfl, fun p hp => ?_⟩
    rcases List.mem_cons.1 hp with rfl | hp
    · exact ⟨h1, h2⟩
    · exact h4 p hp
def dfK (M : Mem) (a : Df) : Prop := a.ok ∧ ∃ L : List Ln, SlH M a.v L ∧ ∀ b ∈ L, ∃ D : List Dr, SlH M b.v D ∧ ∀ d ∈ D, d.ok
theorem dfs_of {M : Mem} : ∀ {L : List Df}, (∀ a ∈ L, dfK M a) → ∃ D : Dfs, D.row = L ∧ DfsOK M D
  | [], _ => ⟨[], rfl, fun p hp => by simp at hp⟩
  | a :: L, h => by
    obtain ⟨ok, R, h1, h2⟩ := h a List.mem_cons_self
    obtain ⟨T, rfl, h3⟩ := lns_of h2
    obtain ⟨D, h4, h5⟩ := dfs_of fun b hb => h b (List.mem_cons_of_mem _ hb)
    refine ⟨(a, T) :: D, by rw [← h4]; rfl, fun p hp => ?_⟩
    rcases List.mem_cons.1 hp with rfl | hp
    · exact ⟨ok, h1, h3⟩
    · exact h5 p hp
def Df.rect (a : Df) : Rc := ⟨a.t % 12 - 2, a.l % 14 - 2, a.r % 8 - 1, a.c % 12 - 1⟩
def tilesF (D : Dfs) : List (Rc × Gd) := (D.take 6).map fun p => (p.1.rect, gridF p.1.g p.2)
def TlN (M₀ M : Mem) (v : Value) (T : Tls) : Prop := Mine 63 M₀ M v T.row ∧ ∀ a ∈ T, GrN M₀ M a.1.v a.2
theorem TlN.ext {M₀ M M' : Mem} (e : Ext M M') {v : Value} {T : Tls} (h : TlN M₀ M v T) : TlN M₀ M' v T := ⟨h.1.ext e, fun a ha => (h.2 a ha).ext e⟩
theorem TlN.old {M₁ M₀ M : Mem} (e : Ext M₁ M₀) {v : Value} {T : Tls} (h : TlN M₀ M v T) : TlN M₁ M v T := ⟨h.1.old e, fun a ha => (h.2 a ha).old e⟩
theorem mine_keep' {α β : Type} [Enc α] [Enc β] {M₀ M M' : Mem} {ty ty' : TypeId} {s x : Value} {R : List α} {L : List β} (hs : Mine ty M₀ M s R) (hx : Mine ty' M₀ M x L) (hne : ty' ≠ ty) (k : ∀ c, c < M.size → blk s ≠ some c → M'.get c = M.get c) : Mine ty' M₀ M' x L := by
  rcases hx with ⟨b, sp, rfl, h1, h2⟩ | hx
  · refine .inl ⟨b, sp, rfl, ?_, h2⟩
    rw [k b (Mem.lt_of_get h1)]
    · exact h1
    · rcases hs with ⟨b', sp', rfl, h3, _⟩ | ⟨_, rfl⟩
      · intro e
        simp only [blk] at e
        cases e
        rw [h1] at h3; exact hne (AObj.cells.inj (Option.some.inj h3)).2.1
      · simp [blk]
  · exact .inr hx
theorem GrN.keep {α : Type} [Enc α] {M₀ M M' : Mem} {ty : TypeId} {s v : Value} {R : List α} {G : Gd} (hs : Mine ty M₀ M s R) (h : GrN M₀ M v G) (h1 : (35 : TypeId) ≠ ty) (h2 : (53 : TypeId) ≠ ty) (k : ∀ c, c < M.size → blk s ≠ some c → M'.get c = M.get c) : GrN M₀ M' v G := by
  obtain ⟨P, p1, p2, p3⟩ := h
  exact ⟨P, mine_keep' hs p1 h1 k, fun p hp => mine_keep' hs (p2 p hp) h2 k, p3⟩
theorem gridF_row {c : Int} {T : Lns} : ∀ L ∈ gridF c T, L.length ≤ 2 ^ 30 := fun L hL => by
  obtain ⟨p, _, rfl⟩ := List.mem_map.1 hL
  rw [rowF_len]; omega
theorem tl_ok {p : Df} (hp : p.ok) {v : Value} {G : Gd} (h1 : G.length ≤ 2 ^ 20) (h2 : ∀ L ∈ G, L.length ≤ 2 ^ 30) : TlOK (⟨p.rect, v⟩, G) := by
  have := hp.t; have := hp.l; have := hp.r; have := hp.c
  exact ⟨by show -100 ≤ p.t % 12 - 2 ∧ p.t % 12 - 2 ≤ 100; omega, by show -100 ≤ p.l % 14 - 2 ∧ p.l % 14 - 2 ≤ 100; omega, by show -100 ≤ p.r % 8 - 1 ∧ p.r % 8 - 1 ≤ 100; omega, by show -100 ≤ p.c % 12 - 1 ∧ p.c % 12 - 1 ≤ 100; omega, h1, h2⟩
section
variable {M : Mem} {Q : Value → Mem → Prop}
theorem drect_W (hM : M.base ≤ M.size) {a : Df} (ha : a.ok) (q : ∀ M', Ext M M' → Q a.rect.val M') : W funs known (.func (.func n_law30_Draft_rect1) #[] #[]) [.agg (Enc.enc a).toArray] M Q := by
  have h1 := ha.t; have h2 := ha.l; have h3 := ha.r; have h4 := ha.c
  refine law30_Draft_rect1_wp hM ⟨rfl, fun b1 M2 hb1 hM2 => ⟨rfl, fun b3 M4 hb3 hM4 => ?_⟩⟩
  have e4 : Ext M M4 := (Ext.push' hM2).trans (Ext.push' hM4)
  have s2 : M2.size = M.size + 1 := by rw [hM2]; rfl
  have s4 : M4.size = M2.size + 1 := by rw [hM4]; rfl
  refine step_rem8 (by omega) (by omega) (step_conv (IntWalk.i64_in _ (by omega)) (step_sub (by omega) (by omega) ?_))
  refine step_rem8 (by omega) (by omega) (step_conv (IntWalk.i64_in _ (by omega)) (step_sub (by omega) (by omega) ?_))
  refine step_rem8 (by omega) (by omega) (step_conv (IntWalk.i64_in _ (by omega)) (step_sub (by omega) (by omega) ?_))
  refine step_rem8 (by omega) (by omega) (step_conv (IntWalk.i64_in _ (by omega)) (step_sub (by omega) (by omega) ?_))
  refine ⟨a.rect.val, rfl, ⟨rfl, rfl, by decide⟩, fun M18 hM18 => LGetN.as a.rect.val (by exact Nat.le_refl 4) rfl (q _ (hM18 ▸ e4.set (by omega) (by omega) _))⟩
abbrev tlI (M : Mem) (D : Dfs) (dv : Value) : Nat → LS → Prop := fun k s => ∃ (i : Nat) (M' : Mem) (r : Value) (T : Tls), s = law30_tiles_l1_s dv r (.int .i64 i) [] M' ∧ Ext M M' ∧ TlN M M' r T ∧ T.map (fun a => (a.1.r, a.2)) = ((D.take i).map fun p => (p.1.rect, gridF p.1.g p.2)) ∧ i ≤ D.length ∧ i ≤ 6 ∧ k = 6 - i
theorem tiles_W (hM : M.base ≤ M.size) {dv : Value} {D : Dfs} (h : Sl M dv D.row) (hok : DfsOK M D) (q : ∀ M' r T, Ext M M' → TlN M M' r T → T.map (fun a => (a.1.r, a.2)) = tilesF D → Q r M') : W funs known (.func (.func n_law30_tiles) #[] #[]) [dv] M Q := by
  obtain ⟨ad, cap, hdv⟩ := h.shape
  subst hdv
  have hDl : D.row.length = D.length := by simp
  refine law30_tiles_wp hM ?_
  generalize hdv : Value.slice ad D.row.length cap = dv at *
  refine ⟨law30_tiles_l1_m, tlI M D dv, ⟨6, 0, M, .slice none 0 0, [], rfl, Ext.refl _, ⟨.inr ⟨rfl, rfl⟩, by simp⟩, rfl, Nat.zero_le _, by omega, rfl⟩, ?_⟩
  rintro k s ⟨i, M', r, T, rfl, eM, nT0, hTF, hi, hi6, rfl⟩
  have nT : TlN M M' r T := nT0
  clear nT0
  have hTl : T.length = i := by
    have := congrArg List.length hTF
    simp only [List.length_map, List.length_take] at this
    omega
  have hTr : T.row.length = T.length := by simp
  refine law30_tiles_l1_wp (I := tlI M D dv) (step_lenS h ?_)
  rw [hDl]
  have done : (¬ i < D.length ∨ ¬ i < 6) → Q r M' := fun hno => q M' r T eM nT (by
    rw [hTF]; unfold tilesF
    congr 1
    rcases Nat.lt_or_ge i 6 with h6 | h6
    · rw [List.take_of_length_le (by omega), List.take_of_length_le (by omega)]
    · rw [show i = 6 by omega])
  refine step_lss (wpIf.dec (fun g1 => step_lss (wpIf.dec (fun g2 => ?_) (fun g2 => ?_))) (fun g1 => ?_))
  rotate_left
  · exact blockK.hit (law30_tiles_c0_wp (done (.inr (by omega))))
  · exact blockK.hit (law30_tiles_c0_wp (done (.inl (by omega))))
  obtain ⟨p, hp⟩ : ∃ p, D[i]? = some p := ⟨_, List.getElem?_eq_getElem (by omega)⟩
  have hr : D.row[i]? = some p.1 := by show (D.map _)[i]? = _; rw [List.getElem?_map, hp]; rfl
  obtain ⟨ok1, ok2, ok3⟩ := hok p (List.mem_of_getElem? hp)
  have ri : D.row[(i : Int).toNat]? = some p.1 := by rw [Int.toNat_natCast]; exact hr
  have kM := eM.ok hM
  refine rd (h.ext eM) (by omega) ri fun _ => drect_W (freeze_ok _) ok1 fun M7 e7 => ?_
  have t7 := Ext.thaw e7
  have t07 := eM.trans t7
  refine rd_fs (h.ext t07) (by omega) ri (f := 4) (n := 2) rfl (by exact Nat.le_refl 6) fun _ _ => ?_
  refine grid_W (t07.ok hM) ok1.g (ok2.ext t07) (ok3.ext t07) fun M12 gv e12 g12 => ?_
  have t12 := t07.trans e12
  obtain ⟨ag, cg, hgv⟩ := g12.gr.shape
  subst hgv
  refine ⟨.agg (Enc.enc (⟨p.1.rect, .slice ag (gridF p.1.g p.2).length cg⟩ : Tl)).toArray, rfl, ?_⟩
  generalize Value.slice ag (gridF p.1.g p.2).length cg = gv at *
  refine step_lit [(⟨p.1.rect, gv⟩ : Tl)] rfl rfl fun w M15 e15 n15 => ?_
  have t15 := t12.trans e15
  have nT15 : TlN M M15 r T := ((nT.ext t7).ext e12).ext e15
  have g15 : GrN M M15 gv (gridF p.1.g p.2) := (g12.old t07).ext e15
  refine step_appM t15 hM nT15.1 n15.sl.srcs (by rw [hTr]; simp only [List.length_singleton]; omega) (by rw [hTr]; simp only [List.length_singleton]; omega) fun v16 M17 e17 n17 k17 => step_add (by omega) (by omega) ⟨6 - (i + 1), by omega, i + 1, M17, v16, T ++ [(⟨p.1.rect, gv⟩, gridF p.1.g p.2)], rfl, e17, ⟨?_, ?_⟩, ?_, by omega, by omega, rfl⟩
  · have : Tls.row (T ++ [(⟨p.1.rect, gv⟩, gridF p.1.g p.2)]) = T.row ++ [(⟨p.1.rect, gv⟩ : Tl)] := by simp [Tls.row]
    rw [this]; exact n17
  · intro a ha
    rcases List.mem_append.1 ha with ha | ha
    · exact GrN.keep nT15.1 (nT15.2 a ha) (by decide) (by decide) k17
    · rw [List.mem_singleton] at ha; subst ha
      exact GrN.keep nT15.1 g15 (by decide) (by decide) k17
  · obtain ⟨h1, h2⟩ := List.getElem?_eq_some_iff.1 hp
    rw [List.map_append, hTF, List.take_succ_eq_append_getElem h1, h2, List.map_append]; rfl
end
end Go.Proofs.Ytkelbhcaecojkaa.Run
