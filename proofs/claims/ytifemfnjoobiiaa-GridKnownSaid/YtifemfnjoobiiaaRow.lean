
/- What the small functions of chapter 10 do: contracts over the calculus. -/
import Derived.Test.YtifemfnjoobiiaaVc
import Derived.Test.YtifemfnjoobiiaaStep
namespace Go.Proofs.Ytifemfnjoobiiaa.Run
open Go Go.RowKit
set_option linter.unusedVariables false
set_option linter.unusedSimpArgs false
structure At9 where
 a1 : Int
 a2 : Int
 a3 : Int
 a4 : Int
 a5 : Int
 a6 : Int
 a7 : Int
 a8 : Int
 a9 : Int
deriving DecidableEq
structure Ce where
 rune : Int
 m1 : Int
 m2 : Int
 kind : Int
 attr : At9
 label : Int
deriving DecidableEq
def At9.cells (a : At9) : List Value := [.int .u8 a.a1, .int .u8 a.a2, .int .u8 a.a3, .int .u8 a.a4, .int .u8 a.a5, .int .u8 a.a6, .int .u8 a.a7, .int .u8 a.a8, .int .u16 a.a9]
instance : Enc Ce := ⟨14, fun c => [.int .i32 c.rune, .int .i32 c.m1, .int .i32 c.m2, .int .u8 c.kind, .int .u8 c.attr.a1, .int .u8 c.attr.a2, .int .u8 c.attr.a3, .int .u8 c.attr.a4, .int .u8 c.attr.a5, .int .u8 c.attr.a6, .int .u8 c.attr.a7, .int .u8 c.attr.a8, .int .u16 c.attr.a9, .int .u8 c.label], fun _ => rfl, by decide⟩
abbrev Ce.val (c : Ce) : Value := .agg (Enc.enc c).toArray
section
variable {M : Mem} {Q : Value → Mem → Prop}
theorem within_W {α : Type} [E : Enc α] {N : Mem} (hM : M.base ≤ M.size) {v : Value} {L : List α} (h : Sl N v L) {at' : Int} (q : Q (.int .i64 (max 0 (min at' L.length))) M) : W funs known (.func (.func n_row_within) #[] #[]) [.int .i64 at', v] M Q := by
 obtain ⟨a, cap, rfl⟩ := h.shape
 exact row_within_wp hM (step_len (step_min (step_max q)))
theorem which_W (hM : M.base ≤ M.size) {b : Bool} {x y : Int} (q : Q (.int .u8 (if b then x else y)) M) : W funs known (.func (.func n_label_which) #[] #[]) [.bool b, .int .u8 x, .int .u8 y] M Q := by
 refine label_which_wp hM ?_
 cases b
 ·exact wpIf.ff q
 ·exact wpIf.tt q
theorem own_W (hM : M.base ≤ M.size) {v : Value} {L : List Ce} (h : Sl M v L) (hL : L.length ≤ 2 ^ 30) (q : ∀ M' r, Ext M M' → New 42 M M' r L → Q r M') : W funs known (.func (.func n_row_own) #[] #[]) [v] M Q := by
 obtain ⟨a, cap, rfl⟩ := h.shape
 obtain ⟨v2, M2, h2, u, M3, h3, e3, n3⟩ := own_ok (ty := 42) (bytes := 28) (z := [(.int .i32 0), (.int .i32 0), (.int .i32 0), (.int .u8 0), (.int .u8 0), (.int .u8 0), (.int .u8 0), (.int .u8 0), (.int .u8 0), (.int .u8 0), (.int .u8 0), (.int .u8 0), (.int .u16 0), (.int .u8 0)]) rfl hM h (by omega) (by omega)
 exact row_own_wp hM (step_len ⟨v2, M2, h2, u, M3, h3, q M3 v2 e3 n3⟩)
def Ce.half (c : Ce) : Ce := ⟨0, 0, 0, 2, c.attr, c.label⟩
def blankF (a : At9) (l : Int) : Ce := ⟨0, 0, 0, 0, ⟨0, 0, 0, 0, a.a5, a.a6, a.a7, a.a8, 0⟩, l⟩
abbrev nwI (M : Mem) (c : Ce) (v : Value) (n : Nat) (b1 : Nat) (z : Ce) : Nat → LS → Prop := fun k s => ∃ (i : Nat) (M' : Mem), s = row_New_l1_s v (.int .i64 n) (.int .i64 i) b1 (.int .i32 c.rune) (.int .i32 c.m1) (.int .i32 c.m2) (.int .u8 c.kind) (.int .u8 c.attr.a1) (.int .u8 c.attr.a2) (.int .u8 c.attr.a3) (.int .u8 c.attr.a4) (.int .u8 c.attr.a5) (.int .u8 c.attr.a6) (.int .u8 c.attr.a7) (.int .u8 c.attr.a8) (.int .u16 c.attr.a9) (.int .u8 c.label) [] M' ∧
 Ext M M' ∧ New 42 M M' v (List.replicate i c ++ List.replicate (n - i) z) ∧ i ≤ n ∧ k = n - i
def zeroC : Ce := ⟨0, 0, 0, 0, ⟨0, 0, 0, 0, 0, 0, 0, 0, 0⟩, 0⟩
set_option maxHeartbeats 1000000 in
theorem new_W (hM : M.base ≤ M.size) {n : Int} {c : Ce} (hn : n ≤ 2 ^ 30) (q : ∀ M' r, Ext M M' → New 42 M M' r (List.replicate n.toNat c) → Q r M') : W funs known (.func (.func n_row_New) #[] #[]) [.int .i64 n, c.val] M Q := by
 refine row_New_wp hM ⟨rfl, fun b1 M2 hb1 hM2 => step_max ?_⟩
 have e2 : Ext M M2 := Ext.push' hM2
 have hb2 : b1 < M2.size := by rw [hM2]; simp; omega
 have hmx : max 0 n = ((n.toNat : Nat) : Int) := by omega
 rw [hmx]
 generalize hN : n.toNat = N at q ⊢
 have hN30 : N ≤ 2 ^ 30 := by omega
 refine ⟨.slice (some ⟨M2.size, 0, some 0⟩) N N, M2.push (.cells (rep N (Enc.enc zeroC)) 42 true), ?_, (Ext.push _ _).keep _, step_len ?_⟩
 ·simp only [opSem, ev]
  rw [if_pos ⟨by omega, Int.le_refl _, by omega, by omega⟩, Int.toNat_natCast]; rfl
 have e5 : Ext M2 (M2.push (.cells (rep N (Enc.enc zeroC)) 42 true)) := Ext.push _ _
 have n5 : New 42 M2 (M2.push (.cells (rep N (Enc.enc zeroC)) 42 true)) (.slice (some ⟨M2.size, 0, some 0⟩) N N) (List.replicate 0 c ++ List.replicate (N - 0) zeroC) := by
  refine ⟨M2.size, some 0, by simp, ?_, Nat.le_refl _⟩
  rw [Mem.get_push, if_pos rfl, List.replicate_zero, List.nil_append, Nat.sub_zero, flat_replicate]
 generalize M2.push (.cells (rep N (Enc.enc zeroC)) 42 true) = M5 at e5 n5 ⊢
 generalize (Value.slice (some ⟨M2.size, 0, some 0⟩) N N) = v at n5 ⊢
 have k2 := e2.ok hM
 refine ⟨row_New_l1_m, nwI M2 c v N b1 zeroC, ⟨N, 0, M5, rfl, e5, n5, Nat.zero_le _, rfl⟩, ?_⟩
 rintro k s ⟨i, M', rfl, eM, nM0, hi, rfl⟩
 have nM : New 42 M2 M' v (List.replicate i c ++ List.replicate (N - i) zeroC) := nM0
 refine row_New_l1_wp (I := nwI M2 c v N b1 zeroC) ?_
 refine step_lss (wpIf.dec (fun h1 => ?_) (fun h1 => ?_))
 ·have hlt : i < N := by omega
  have hget : (List.replicate i c ++ List.replicate (N - i) zeroC)[i]? = some zeroC := by
   rw [List.getElem?_append_right (by simp), List.length_replicate, Nat.sub_self, List.getElem?_replicate, if_pos (by omega)]
  obtain ⟨b, g1, u, M4, g2, e4, n4⟩ := nM.store eM k2 hget (f := 0) (vs := (Enc.enc c)) (a' := c) (x := c.val) (by exact Nat.le_refl 14) rfl (by simp [Ce.val, Value.cells]) rfl (j := .i64)
  refine ⟨_, g1, u, M4, g2, fun z hz _ => by rw [List.mem_singleton] at hz; subst hz; rw [e4.get _ hb2, eM.get _ hb2], step_add (by omega) (by omega) ⟨N - (i + 1), by omega, i + 1, M4, rfl, e4, ?_, by omega, rfl⟩⟩
  have : (List.replicate i c ++ List.replicate (N - i) zeroC).set i c = List.replicate (i + 1) c ++ List.replicate (N - (i + 1)) zeroC := by
   rw [List.set_append_right _ _ (by simp), List.length_replicate, Nat.sub_self, show N - i = (N - (i + 1)) + 1 by omega, List.replicate_succ, List.set_cons_zero, List.replicate_succ', List.append_assoc]; rfl
  rw [← this]; exact n4
 ·have hiN : i = N := by omega
  subst hiN
  refine blockK.hit (row_New_c0_wp ?_)
  refine q M' v (e2.trans eM) ?_
  have := nM.old e2
  rw [Nat.sub_self, List.replicate_zero, List.append_nil] at this
  exact this
structure Lv where
 n : Int
instance : Enc Lv := ⟨1, fun a => [.int .u8 a.n], fun _ => rfl, by decide⟩
abbrev soI (M : Mem) (L : List Lv) (v : Value) : Nat → LS → Prop := fun k s => ∃ (i : Nat), s = label_some_Level_l1_s (.func (.func n_label_Join_1) #[] #[]) v (.int .i64 L.length) (.int .i64 i) [] M ∧ i ≤ L.length ∧ (∀ (x : Nat) (a : Lv), L[x]? = some a → x < i → ¬ a.n > 0) ∧ k = L.length - i
theorem join_W (hM : M.base ≤ M.size) {v : Value} {L : List Lv} (h : Sl M v L) (hL : L.length < 2 ^ 60) (q : ∀ b : Bool, (b = true ↔ ∃ a ∈ L, a.n > 0) → Q (.int .u8 (if b then 1 else 0)) M) : W funs known (.func (.func n_label_Join) #[] #[]) [v] M Q := by
 obtain ⟨ad, cap, rfl⟩ := h.shape
 refine label_Join_wp hM (label_some_Level_wp hM (step_len ?_))
 refine ⟨label_some_Level_l1_m, soI M L (.slice ad L.length cap), ⟨L.length, 0, rfl, Nat.zero_le _, fun x a _ hx => absurd hx (by omega), rfl⟩, ?_⟩
 rintro k s ⟨i, rfl, hi, hA, rfl⟩
 refine label_some_Level_l1_wp (I := soI M L (.slice ad L.length cap)) ?_
 refine step_lss (wpIf.dec (fun h1 => ?_) (fun h1 => ?_))
 ·have hlt : i < L.length := by omega
  obtain ⟨a, ha⟩ : ∃ a, L[i]? = some a := ⟨_, List.getElem?_eq_getElem hlt⟩
  obtain ⟨p, hp, hat⟩ := h.addr (i := (i : Int)) (by omega) (a := a) (by rw [Int.toNat_natCast]; exact ha) (j := .i64) M
  refine ⟨p, hp, _, hat.load1 rfl, label_Join_1_wp hM (step_gtr (wpIf.dec (fun h2 => ?_) (fun h2 => ?_)))⟩
  ·exact which_W hM (q true ⟨fun _ => ⟨a, List.mem_of_getElem? ha, h2⟩, fun _ => rfl⟩)
  ·refine step_add (by omega) (by omega) ⟨L.length - (i + 1), by omega, i + 1, rfl, by omega, fun x c hx hxi => ?_, rfl⟩
   rcases Nat.lt_or_eq_of_le (Nat.le_of_lt_succ hxi) with h3 | rfl
   ·exact hA x c hx h3
   ·rw [ha] at hx; cases hx; exact h2
 ·refine blockK.hit (label_some_Level_c0_wp (which_W hM (q false ⟨fun h => (by cases h), ?_⟩)))
  rintro ⟨a, ha, h2⟩
  obtain ⟨x, hx⟩ := List.mem_iff_getElem?.1 ha
  exact absurd h2 (hA x a hx (by have := (List.getElem?_eq_some_iff.1 hx).1; omega))
theorem lit2 (x y : Int) (M : Mem) : ∃ v M', opSem (.lit 40 2 [(.int .u8 0), (.int .u8 0)] [(0, (1, (.const (.int .u8 x)))), (1, (1, (.const (.int .u8 y))))]) [] M = some (v, M') ∧ Ext M M' ∧ Sl M' v [(⟨x⟩ : Lv), ⟨y⟩] := by
 refine ⟨.slice (some ⟨M.size, 0, some 0⟩) 2 2, M.push (.cells [.int .u8 x, .int .u8 y] 40 true), rfl, Ext.push _ _, some ⟨M.size, 0, some 0⟩, 2, rfl, Nat.le_refl _, .inr ⟨_, _, _, rfl, ?_, trivial⟩⟩
 simp only [Mem.loadN, Mem.get_push, if_true]
 rfl
def joinF (x y : Int) : Int := if x > 0 ∨ y > 0 then 1 else 0
theorem join2 {b : Bool} {x y : Int} (h : b = true ↔ ∃ a ∈ [(⟨x⟩ : Lv), ⟨y⟩], a.n > 0) : (if b then (1 : Int) else 0) = joinF x y := by
 have : (∃ a ∈ [(⟨x⟩ : Lv), ⟨y⟩], a.n > 0) ↔ (x > 0 ∨ y > 0) := by simp
 rw [this] at h
 unfold joinF
 by_cases hc : x > 0 ∨ y > 0
 ·rw [if_pos hc, if_pos (h.2 hc)]
 ·rw [if_neg hc, if_neg (fun hb => hc (h.1 hb))]
def Ce.raise (l : Int) (c : Ce) : Ce := { c with label := joinF c.label l }
abbrev raI (M : Mem) (L : List Ce) (l : Int) (v : Value) : Nat → LS → Prop := fun k s => ∃ (i : Nat) (M' : Mem), s = row_Raise_l1_s v (.int .u8 l) (.int .i64 L.length) (.int .i64 i) [] M' ∧ Ext M M' ∧ New 42 M M' v ((L.take i).map (Ce.raise l) ++ L.drop i) ∧ i ≤ L.length ∧ k = L.length - i
set_option maxHeartbeats 1000000 in
theorem raise_W (hM : M.base ≤ M.size) {v : Value} {L : List Ce} (h : Sl M v L) (hL : L.length ≤ 2 ^ 30) {l : Int} (q : ∀ M' r, Ext M M' → New 42 M M' r (L.map (Ce.raise l)) → Q r M') : W funs known (.func (.func n_row_Raise) #[] #[]) [v, .int .u8 l] M Q := by
 obtain ⟨ad, cap, rfl⟩ := h.shape
 refine row_Raise_wp hM (own_W hM h hL fun M2 r e2 n2 => ?_)
 have k2 := e2.ok hM
 obtain ⟨ad2, cap2, rfl⟩ := n2.sl.shape
 refine step_len ⟨row_Raise_l1_m, raI M L l (.slice ad2 L.length cap2), ⟨L.length, 0, M2, rfl, e2, n2, Nat.zero_le _, rfl⟩, ?_⟩
 rintro k s ⟨i, M', rfl, eM, nM0, hi, rfl⟩
 have nM : New 42 M M' (.slice ad2 L.length cap2) ((L.take i).map (Ce.raise l) ++ L.drop i) := nM0
 refine row_Raise_l1_wp (I := raI M L l (.slice ad2 L.length cap2)) ?_
 refine step_lss (wpIf.dec (fun h1 => ?_) (fun h1 => ?_))
 ·have hlt : i < L.length := by omega
  obtain ⟨a, ha⟩ : ∃ a, L[i]? = some a := ⟨_, List.getElem?_eq_getElem hlt⟩
  have hget : ((L.take i).map (Ce.raise l) ++ L.drop i)[i]? = some a := by
   rw [List.getElem?_append_right (by simp; omega), List.length_map, List.length_take, Nat.min_eq_left (by omega), Nat.sub_self, List.getElem?_drop, Nat.add_zero]; exact ha
  obtain ⟨p, hp, hat⟩ := nM.sl.addr (i := (i : Int)) (by omega) (a := a) (by rw [Int.toNat_natCast]; exact hget) (j := .i64) M'
  obtain ⟨p1, hp1, ld1⟩ := hat.field 13 (v := .int .u8 a.label) rfl M'
  obtain ⟨v5, M6, h5, e6, s6⟩ := lit2 a.label l M'
  have k6 := e6.ok (eM.ok hM)
  refine ⟨p, hp, p1, hp1, _, ld1, v5, M6, h5, join_W k6 s6 (by simp) fun b hb => ?_⟩
  rw [join2 hb]
  obtain ⟨p2, g1, q2, g2, u, M12, g3, e12, n12⟩ := (nM.ext e6).put (eM.trans e6) hM hget (f := 13) (by decide) (x := .int .u8 (joinF a.label l)) (a' := a.raise l) rfl rfl rfl (j := .i64)
  refine ⟨p2, g1, q2, g2, u, M12, g3, step_add (by omega) (by omega) ⟨L.length - (i + 1), by omega, i + 1, M12, rfl, e12, ?_, by omega, rfl⟩⟩
  have : ((L.take i).map (Ce.raise l) ++ L.drop i).set i (a.raise l) = (L.take (i + 1)).map (Ce.raise l) ++ L.drop (i + 1) := by
   obtain ⟨_, rfl⟩ := List.getElem?_eq_some_iff.1 ha
   rw [List.set_append_right _ _ (by simp; omega), List.length_map, List.length_take, Nat.min_eq_left (by omega), Nat.sub_self, List.drop_eq_getElem_cons hlt, List.set_cons_zero, List.take_add_one, List.getElem?_eq_getElem hlt, List.map_append]
   simp
  rw [← this]; exact n12
 ·have hiN : i = L.length := by omega
  subst hiN
  refine blockK.hit (row_Raise_c0_wp ?_)
  refine q M' _ eM ?_
  rw [List.take_length, List.drop_length, List.append_nil] at nM
  exact nM
def Ce.bare (c : Ce) : Ce := ⟨0, 0, 0, 0, c.attr, c.label⟩
theorem bare_W {M₀ : Mem} (e : Ext M₀ M) (hb : M₀.base ≤ M₀.size) {b : Nat} {v : Value} (hk : M.load1 b 0 = some v) {L : List Ce} (n : New 42 M₀ M v L) {i : Nat} {c : Ce} (hi : L[i]? = some c) (q : ∀ M', Ext M₀ M' → New 42 M₀ M' v (L.set i c.bare) → Q (.tuple #[]) M') :
  W funs known (.func (.func n_row_Break_1) #[] #[.pointer (some ⟨b, 0, none⟩)]) [.int .i64 i] M Q := by
 have hl : opSem (.load none (.const (.pointer (some ⟨b, 0, none⟩)))) [] M = some (v, M) := by simp only [opSem, ev, hk]; rfl
 obtain ⟨p, hp, hat⟩ := n.sl.addr (i := (i : Int)) (by omega) (a := c) (by rw [Int.toNat_natCast]; exact hi) (j := .i64) M
 obtain ⟨p1, hp1, ld1⟩ := hat.fields 4 9 (l := c.attr.cells) rfl (by decide) M
 obtain ⟨p2, hp2, ld2⟩ := hat.field 13 (v := .int .u8 c.label) rfl M
 obtain ⟨b', g1, u, M4, g2, e4, n4⟩ := n.store e hb hi (f := 0) (vs := (Enc.enc c.bare)) (a' := c.bare) (x := c.bare.val) (by exact Nat.le_refl 14) rfl (by simp [Ce.val, Value.cells]) rfl (j := .i64)
 exact row_Break_1_wp (e.ok hb) ⟨v, hl, v, hl, p, hp, p1, hp1, _, ld1, v, hl, p, hp, p2, hp2, _, ld2, c.bare.val, rfl, _, g1, u, M4, g2, q M4 e4 n4⟩
end
end Go.Proofs.Ytifemfnjoobiiaa.Run
