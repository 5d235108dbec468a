/- A text that is made of bytes, one behind the other, and the text of a row. -/
import Derived.Test.YtkelbhcaecojkaaVcX
import Derived.Test.YtkelbhcaecojkaaRowH
namespace Go.Proofs.Ytkelbhcaecojkaa.Run
open Go Go.RowKit
set_option linter.unusedVariables false
set_option linter.unusedSimpArgs false

/-! ### A thing behind an address -/
section
variable {M : Mem} {b : Nat} {c : List Value} {ty : TypeId} {w : Bool} {P : Value → Prop} {PM : Value → Mem → Prop}
theorem pt_nil {a : Addr} (p : P (.pointer (some a))) : ∃ v, opSem (.nilCheck (.const (.pointer (some a)))) [] M = some (v, M) ∧ P v := ⟨_, rfl, p⟩
theorem pt_f {f o : Nat} (p : P (.pointer (some ⟨b, o + f, none⟩))) : ∃ v, opSem (.fieldAddr f (.const (.pointer (some ⟨b, o, none⟩)))) [] M = some (v, M) ∧ P v := ⟨_, rfl, p⟩
theorem pt_ld {o : Nat} {x : Value} (h : M.get b = some (.cells c ty w)) (hx : c[o]? = some x) (p : P x) : ∃ v, opSem (.load none (.const (.pointer (some ⟨b, o, none⟩)))) [] M = some (v, M) ∧ P v := by
  refine ⟨x, ?_, p⟩
  simp only [opSem, ev, Mem.load1, h, hx, Option.map_some]
theorem splice_one {c : List Value} {o : Nat} (h : o < c.length) (x : Value) : splice c o [x] = c.set o x := by
  unfold splice
  rw [List.set_eq_take_append_cons_drop, if_pos h]
  simp
theorem pt_st {o : Nat} {x : Value} (h : M.get b = some (.cells c ty true)) (hb : M.base ≤ b) (ho : o < c.length) (h1 : x.cells.toList = [x]) (h2 : notTup x = true) (q : ∀ u M', M' = M.set b (.cells (c.set o x) ty true) → PM u M') : ∃ u M', opSem (.store 1 (.const (.pointer (some ⟨b, o, none⟩))) (.const x)) [] M = some (u, M') ∧ PM u M' := by
  refine ⟨undef, M.set b (.cells (c.set o x) ty true), ?_, q _ _ rfl⟩
  have hs : x.cells.size = 1 := by rw [← Array.length_toList, h1]; rfl
  have h3 : M.base ≤ b ∧ o + 1 ≤ c.length := ⟨hb, by omega⟩
  simp only [opSem, ev, hs, h2, and_self, if_true, h1, Mem.storeQ, Mem.storeN, h, List.length_singleton, if_pos h3, splice_one ho, Option.map_some]
end

/-- what there is of other kinds stays -/
def Oth (M M' : Mem) : Prop := ∀ x cs ty, M.get x = some (.cells cs ty true) → ty ≠ 5 → ty ≠ 114 → M'.get x = some (.cells cs ty true)
theorem Oth.refl (M : Mem) : Oth M M := fun _ _ _ h _ _ => h
theorem Oth.trans {A B C : Mem} (h : Oth A B) (k : Oth B C) : Oth A C := fun x cs ty g h1 h2 => k x cs ty (h x cs ty g h1 h2) h1 h2

/-- a builder, and what was written -/
structure Bld (M₀ M : Mem) (b : Nat) (s : List Lv) : Prop where
  ext : Ext M₀ M
  lt : M₀.size ≤ b
  is : ∃ a buf, M.get b = some (.cells [a, buf] 114 true) ∧ (a = .pointer none ∨ a = .pointer (some ⟨b, 0, none⟩)) ∧ Mine 5 M₀ M buf s ∧ (s = [] → buf = .slice none 0 0)

section
variable {M₀ M : Mem} {b : Nat} {s : List Lv} {Q : Value → Mem → Prop}
theorem Bld.base (h : Bld M₀ M b s) (hb : M₀.base ≤ M₀.size) : M.base ≤ b := by have := h.ext.base; have := h.lt; omega
theorem Bld.bok (h : Bld M₀ M b s) (hb : M₀.base ≤ M₀.size) : M.base ≤ M.size := h.ext.ok hb
/-- another memory, in which there is more of other kinds -/
theorem Bld.more {M' : Mem} (h : Bld M₀ M b s) (e : Ext M M') : Bld M₀ M' b s := by
  obtain ⟨a, buf, h1, h2, h3, h4⟩ := h.is
  exact ⟨h.ext.trans e, h.lt, a, buf, e.same h1, h2, h3.ext e, h4⟩
theorem mine_set {α : Type} [Enc α] {ty ty' : TypeId} {v : Value} {L : List α} {c c' : List Value} (h : Mine ty M₀ M v L) (hg : M.get b = some (.cells c ty' true)) (hne : ty' ≠ ty) : Mine ty M₀ (M.set b (.cells c' ty' true)) v L := by
  rcases h with ⟨b', sp, h1, h2, h3⟩ | h
  · refine .inl ⟨b', sp, h1, ?_, h3⟩
    rw [Mem.get_set _ _ _ (Mem.lt_of_get hg), if_neg]
    · exact h2
    · rintro rfl
      rw [hg] at h2; cases h2; exact hne rfl
  · exact .inr h
theorem oth_set {c : List Value} {ty : TypeId} (hg : M.get b = some (.cells c ty true)) (hty : ty = 5 ∨ ty = 114) (o : AObj) : Oth M (M.set b o) := by
  intro x cs t h h1 h2
  rw [Mem.get_set _ _ _ (Mem.lt_of_get hg), if_neg]
  · exact h
  · rintro rfl
    rw [hg] at h; cases h
    rcases hty with h | h
    · exact h1 h
    · exact h2 h
theorem Ext.set_new {M₀ M : Mem} (e : Ext M₀ M) {b : Nat} (h : M₀.size ≤ b) (hb : b < M.size) (o : AObj) : Ext M₀ (M.set b o) :=
  ⟨e.base, by have := e.size; simpa using this, fun c hc => by rw [Mem.get_set _ _ _ hb, if_neg (by omega)]; exact e.get c hc⟩

theorem copyCheck_W (hb : M₀.base ≤ M₀.size) (h : Bld M₀ M b s) (q : ∀ M' r, Bld M₀ M' b s → Oth M M' → Q r M') : W funs known (.func (.func n_strings_Builder_copyCheck) #[] #[]) [.pointer (some ⟨b, 0, none⟩)] M Q := by
  obtain ⟨a, buf, h1, h2, h3, h4⟩ := h.is
  have hbs := Mem.lt_of_get h1
  refine strings_Builder_copyCheck_wp (h.bok hb) (pt_nil (pt_f (pt_ld h1 rfl ?_)))
  rcases h2 with rfl | rfl
  · refine ⟨.bool true, rfl, wpIf.tt ⟨.pointer (some ⟨b, 0, none⟩), ?_, .pointer (some ⟨b, 0, none⟩), ?_, pt_nil (pt_f (pt_st h1 (h.base hb) (by simp) rfl rfl fun u M' hM' => q M' _ ?_ ?_))⟩⟩
    · simp [opSem, ev, h1]
    · simp [opSem, ev, h1]
    · subst hM'
      exact ⟨h.ext.set_new h.lt hbs _, h.lt, _, buf, by rw [Mem.get_set _ _ _ hbs, if_pos rfl]; rfl, .inr rfl, mine_set h3 h1 (by decide), h4⟩
    · subst hM'; exact oth_set h1 (.inr rfl) _
  · refine ⟨.bool false, rfl, wpIf.ff (pt_nil (pt_f (pt_ld h1 rfl ⟨.bool false, ?_, wpIf.ff (q M _ h (Oth.refl _))⟩)))⟩
    simp [binV, isShift, negIf]
theorem mine_blk {ty : TypeId} {v : Value} {L : List Lv} (h : Mine ty M₀ M v L) {x : Nat} {cs : List Value} {ty' : TypeId} {w : Bool} (hg : M.get x = some (.cells cs ty' w)) (hne : ty' ≠ ty) : blk v ≠ some x := by
  rcases h with ⟨b', sp, rfl, h2, h3⟩ | ⟨_, rfl⟩
  · intro e
    simp only [blk] at e
    cases e
    rw [hg] at h2; cases h2; exact hne rfl
  · simp [blk]
theorem Ext.oth {M M' : Mem} (e : Ext M M') : Oth M M' := fun x cs ty h _ _ => e.same h
theorem oth_app {M M' : Mem} {v : Value} {L : List Lv} (h : Mine 5 M₀ M v L) (k : ∀ c, c < M.size → blk v ≠ some c → M'.get c = M.get c) : Oth M M' := fun x cs ty g h1 h2 => by
  rw [k x (Mem.lt_of_get g) (mine_blk h g h1)]; exact g
theorem Bld.store {a buf v : Value} {L : List Lv} (hb : M₀.base ≤ M₀.size) (e : Ext M₀ M) (hlt : M₀.size ≤ b) (hg : M.get b = some (.cells [a, buf] 114 true)) (ha : a = .pointer none ∨ a = .pointer (some ⟨b, 0, none⟩)) (hm : Mine 5 M₀ M v L) (hne : L ≠ []) {PM : Value → Mem → Prop}
    (q : ∀ u M', Bld M₀ M' b L → Oth M M' → PM u M') : ∃ p, opSem (.nilCheck (.const (.pointer (some ⟨b, 0, none⟩)))) [] M = some (p, M) ∧ ∃ p', opSem (.fieldAddr 1 (.const p)) [] M = some (p', M) ∧ ∃ u M', opSem (.store 1 (.const p') (.const v)) [] M = some (u, M') ∧ PM u M' := by
  have hbs := Mem.lt_of_get hg
  have hbb : M.base ≤ b := by have := e.base; omega
  have hv : v.cells.toList = [v] ∧ notTup v = true := by
    rcases hm with ⟨b', sp, rfl, _⟩ | ⟨_, rfl⟩ <;> exact ⟨rfl, rfl⟩
  refine pt_nil (pt_f (pt_st hg hbb (by simp) hv.1 hv.2 fun u M' hM' => q u M' ?_ (hM' ▸ oth_set hg (.inr rfl) _)))
  subst hM'
  exact ⟨e.set_new hlt hbs _, hlt, a, v, by rw [Mem.get_set _ _ _ hbs, if_pos rfl]; rfl, ha, mine_set hm hg (by decide), fun h => absurd h hne⟩

theorem wbyte_W (hb : M₀.base ≤ M₀.size) (h : Bld M₀ M b s) (hs : s.length ≤ 2 ^ 30) {c : Int} (q : ∀ M' r, Bld M₀ M' b (s ++ [⟨c⟩]) → Oth M M' → Q r M') : W funs known (.func (.func n_strings_Builder_WriteByte) #[] #[]) [.pointer (some ⟨b, 0, none⟩), .int .u8 c] M Q := by
  refine strings_Builder_WriteByte_wp (h.bok hb) (copyCheck_W hb h fun M2 _ h2 o2 => ?_)
  obtain ⟨a, buf, g1, g2, g3, _⟩ := h2.is
  refine pt_nil (pt_f (pt_ld g1 rfl (step_lit [(⟨c⟩ : Lv)] rfl rfl fun v M7 e7 n7 => ?_)))
  refine step_appM (h2.ext.trans e7) hb (g3.ext e7) n7.sl.srcs (by simp only [List.length_singleton]; omega) (by simp only [List.length_singleton]; omega) fun v8 M9 e9 m9 k9 => ?_
  have g7 := e7.same g1
  have g9 : M9.get b = some (.cells [a, buf] 114 true) := by rw [k9 b (Mem.lt_of_get g7) (mine_blk (g3.ext e7) g7 (by decide))]; exact g7
  refine Bld.store hb e9 h2.lt g9 g2 m9 (by simp) fun u M' hB o => q M' _ hB (((o2.trans e7.oth).trans (oth_app (g3.ext e7) k9)).trans o)

/-- a rune that is written here -/
def runeB (r : Int) : List Lv := if r ≤ 127 then [⟨r⟩] else [⟨204⟩, ⟨129⟩]
def runeOK (r : Int) : Prop := (0 ≤ r ∧ r ≤ 127) ∨ r = 769
theorem runeB_len (r : Int) : (runeB r).length ≤ 2 := by unfold runeB; split <;> simp
/-- blocks that are not the row's stay -/
def Frm (v : Value) (M M' : Mem) : Prop := ∀ c, c < M.size → blk v ≠ some c → M'.get c = M.get c
theorem nonascii_W (hb : M₀.base ≤ M₀.size) (e : Ext M₀ M) {buf : Value} (hA : Mine 5 M₀ M buf s) (hs : s.length ≤ 2 ^ 30) (q : ∀ M' v, Ext M₀ M' → Mine 5 M₀ M' v (s ++ [⟨204⟩, ⟨129⟩]) → Frm buf M M' → Q v M') : W funs known (.func (.func n_unicode_utf8_appendRuneNonASCII) #[] #[]) [buf, .int .i32 769] M Q := by
  obtain ⟨ad, cap, rfl⟩ := hA.sl.shape
  refine unicode_utf8_appendRuneNonASCII_wp (e.ok hb) (step_conv (IntWalk.u32_in _ (by omega)) (s_leT (by omega) (wpIf.tt ?_)))
  refine ⟨.int .i32 12, rfl, .int .u8 12, rfl, .int .u8 204, rfl, .int .u8 1, rfl, .int .u8 1, rfl, .int .u8 129, rfl, ?_⟩
  refine step_lit [(⟨204⟩ : Lv), ⟨129⟩] rfl rfl fun v M7 e7 n7 => ?_
  exact step_appM (e.trans e7) hb (hA.ext e7) n7.sl.srcs (by simp only [List.length_cons, List.length_nil]; omega) (by simp only [List.length_cons, List.length_nil]; omega) fun v8 M9 e9 m9 k9 => q M9 v8 e9 m9 fun c hc hne => by
    rw [k9 c (by have := e7.size; omega) hne, e7.get c hc]
theorem arune_W (hb : M₀.base ≤ M₀.size) (e : Ext M₀ M) {buf : Value} (hA : Mine 5 M₀ M buf s) (hs : s.length ≤ 2 ^ 30) {r : Int} (hr : runeOK r) (q : ∀ M' v, Ext M₀ M' → Mine 5 M₀ M' v (s ++ runeB r) → Frm buf M M' → Q v M') : W funs known (.func (.func n_unicode_utf8_AppendRune) #[] #[]) [buf, .int .i32 r] M Q := by
  obtain ⟨ad, cap, rfl⟩ := hA.sl.shape
  have h0 : 0 ≤ r ∧ r ≤ 4294967295 := by rcases hr with h | h <;> omega
  refine unicode_utf8_AppendRune_wp (e.ok hb) (step_conv (IntWalk.u32_in _ h0) ?_)
  rcases hr with h | rfl
  · refine s_leT (by omega) (wpIf.tt (step_conv (IntWalk.u8_in _ (by omega)) (step_lit [(⟨r⟩ : Lv)] rfl rfl fun v M7 e7 n7 => ?_)))
    refine step_appM (e.trans e7) hb (hA.ext e7) n7.sl.srcs (by simp only [List.length_singleton]; omega) (by simp only [List.length_singleton]; omega) fun v8 M9 e9 m9 k9 => q M9 v8 e9 ?_ fun c hc hne => by
      rw [k9 c (by have := e7.size; omega) hne, e7.get c hc]
    unfold runeB; rw [if_pos h.2]; exact m9
  · exact s_leF (by omega) (wpIf.ff (nonascii_W hb e hA hs q))
theorem wrune_W (hb : M₀.base ≤ M₀.size) (h : Bld M₀ M b s) (hs : s.length ≤ 2 ^ 30) {r : Int} (hr : runeOK r) (q : ∀ M' v, Bld M₀ M' b (s ++ runeB r) → Oth M M' → Q v M') : W funs known (.func (.func n_strings_Builder_WriteRune) #[] #[]) [.pointer (some ⟨b, 0, none⟩), .int .i32 r] M Q := by
  refine strings_Builder_WriteRune_wp (h.bok hb) (copyCheck_W hb h fun M2 _ h2 o2 => ?_)
  obtain ⟨a, buf, g1, g2, g3, _⟩ := h2.is
  refine pt_nil (pt_f (pt_ld g1 rfl (step_lenS g3.sl ?_)))
  refine pt_nil (pt_f (pt_ld g1 rfl (arune_W hb h2.ext g3 hs hr fun M9 v8 e9 m9 k9 => ?_)))
  have g9 : M9.get b = some (.cells [a, buf] 114 true) := by rw [k9 b (Mem.lt_of_get g1) (mine_blk g3 g1 (by decide))]; exact g1
  refine Bld.store hb e9 h2.lt g9 g2 m9 (by unfold runeB; split <;> simp) fun u M' hB o => ?_
  obtain ⟨a', buf', g1', g2', g3', _⟩ := hB.is
  have hl := runeB_len r
  refine pt_nil (pt_f (pt_ld g1' rfl (step_lenS g3'.sl (step_sub (by simp only [List.length_append]; omega) (by simp only [List.length_append]; omega) ?_))))
  exact q M' _ hB ((o2.trans (oth_app g3 k9)).trans o)

/-- the bytes -/
def strB (s : List Lv) : ByteArray := ⟨(s.map fun x => x.n.toNat.toUInt8).toArray⟩
theorem bytesOf_flat : ∀ s : List Lv, bytesOf (flat s) = some (s.map fun x => x.n.toNat.toUInt8)
  | [] => rfl
  | x :: s => by
    show (bytesOf (flat s)).map _ = _
    rw [bytesOf_flat s]; rfl
theorem Bld.new {M₀ M : Mem} (hM : M = M₀.push (.cells [.pointer none, .slice none 0 0] 114 true)) : Bld M₀ M M₀.size [] := by
  subst hM
  exact ⟨Ext.push _ _, Nat.le_refl _, _, _, by rw [Mem.get_push, if_pos rfl], .inl rfl, .inr ⟨rfl, rfl⟩, fun _ => rfl⟩
theorem string_W (hb : M₀.base ≤ M₀.size) (h : Bld M₀ M b s) (hs : s.length ≤ 2 ^ 30) (q : ∀ M', Ext M₀ M' → Q (.string (strB s)) M') : W funs known (.func (.func n_strings_Builder_String) #[] #[]) [.pointer (some ⟨b, 0, none⟩)] M Q := by
  obtain ⟨a, buf, g1, g2, g3, g6⟩ := h.is
  refine strings_Builder_String_wp (h.bok hb) (pt_nil (pt_f (pt_ld g1 rfl ?_)))
  have hlen := fun N => g3.sl.len (N := N)
  rcases g3 with ⟨b', sp, rfl, g4, g5⟩ | ⟨rfl, rfl⟩
  · by_cases h0 : s.length = 0
    · have hs0 : s = [] := List.length_eq_zero_iff.1 h0
      subst hs0
      cases g6 rfl
    · refine ⟨.pointer (some ⟨b', 0, none⟩), by simp only [opSem, ev, dataV, if_neg h0, Option.map_some], pt_nil (pt_f (pt_ld g1 rfl ⟨_, hlen M, ?_⟩))⟩
      have hbb : M.base ≤ b' := by have := h.ext.base; omega
      have hc : 0 < (s.length : Int) ∧ (s.length : Int) < 2 ^ 40 ∧ 0 + (s.length : Int).toNat ≤ (flat s).length ∧ True ∧ M.base ≤ b' := ⟨by omega, by omega, by rw [flat_len]; show _ ≤ s.length * 1; omega, trivial, hbb⟩
      refine ⟨.string (strB s), M.set b' (.cells (flat s) 5 false), ?_, q _ (h.ext.set_new g5 (Mem.lt_of_get g4) _)⟩
      have ht : ((flat s).drop 0).take (s.length : Int).toNat = flat s := by
        rw [List.drop_zero, List.take_of_length_le]
        rw [flat_len]; show s.length * 1 ≤ _; omega
      simp only [opSem, ev, uStrV, g4]
      rw [if_neg (by omega), if_pos hc, ht, bytesOf_flat]
      rfl
  · refine ⟨.pointer none, rfl, pt_nil (pt_f (pt_ld g1 rfl ⟨_, rfl, .string .empty, M, rfl, ?_⟩))⟩
    exact q M h.ext

/-! ### The text of a row -/

def markB (m : Int) : List Lv := if m = 0 then [] else runeB m
/-- the bytes of a cell -/
def cellB (c : Ce) : List Lv := if c.kind = 2 then [] else if c.rune = 0 then [⟨32⟩] else runeB c.rune ++ markB c.m1 ++ markB c.m2
def textB (L : List Ce) : List Lv := L.flatMap cellB
def Ce.plain (c : Ce) : Prop := runeOK c.rune ∧ runeOK c.m1 ∧ runeOK c.m2
theorem cellB_len (c : Ce) : (cellB c).length ≤ 6 := by
  unfold cellB markB
  have h1 := runeB_len c.rune
  have h2 := runeB_len c.m1
  have h3 := runeB_len c.m2
  split
  · simp
  · split
    · simp
    · simp only [List.length_append]
      repeat' split
      all_goals (try simp only [List.length_nil]); omega
theorem textB_len (L : List Ce) : (textB L).length ≤ 6 * L.length := by
  induction L with
  | nil => simp [textB]
  | cons c L ih =>
    have := cellB_len c
    have e : textB (c :: L) = cellB c ++ textB L := rfl
    rw [e, List.length_append, List.length_cons]; omega

abbrev txI (P : Mem) (b : Nat) (L : List Ce) (v : Value) : Nat → LS → Prop := fun k s => ∃ (i : Nat) (M' : Mem), s = row_Text_l1_s (.pointer (some ⟨b, 0, none⟩)) v (.int .i64 L.length) (.int .i64 i) [] M' ∧ Bld P M' b (textB (L.take i)) ∧ i ≤ L.length ∧ k = L.length - i
abbrev tmI (P : Mem) (b : Nat) (L : List Ce) (v : Value) (i : Nat) (c : Ce) (S : List Lv) (B0 : Nat) : Nat → LS → Prop := fun k s => ∃ (j : Nat) (M' : Mem), s = row_Text_l3_s (.pointer (some ⟨b, 0, none⟩)) v (.int .i64 L.length) (.int .i64 i) (.agg #[.int .i32 c.m1, .int .i32 c.m2]) (.int .i64 j) B0 (Enc.enc c) [] M' ∧ Bld P M' b (S ++ ((if 1 ≤ j then markB c.m1 else []) ++ (if 2 ≤ j then markB c.m2 else []))) ∧ M'.get B0 = some (.cells (Enc.enc c) 53 true) ∧ j ≤ 2 ∧ k = 2 - j

theorem text_W (hM : M.base ≤ M.size) {v : Value} {L : List Ce} (h : Sl M v L) (hL : L.length ≤ 2 ^ 20) (hp : ∀ c ∈ L, c.plain) (q : ∀ M', Ext M M' → Q (.string (strB (textB L))) M') : W funs known (.func (.func n_row_Text) #[] #[]) [v] M Q := by
  obtain ⟨ad, cap, rfl⟩ := h.shape
  refine row_Text_wp hM ⟨rfl, fun b1 M2 hb1 hM2 => step_len ?_⟩
  subst hb1
  refine ⟨row_Text_l1_m, txI M M.size L (.slice ad L.length cap), ⟨L.length, 0, M2, rfl, Bld.new hM2, Nat.zero_le _, rfl⟩, ?_⟩
  rintro k s ⟨i, M', rfl, hB, hi, rfl⟩
  have hlen := textB_len (L.take i)
  have hlt2 : (L.take i).length ≤ L.length := by rw [List.length_take]; omega
  refine row_Text_l1_wp (I := txI M M.size L (.slice ad L.length cap)) (step_lss (wpIf.dec (fun h1 => ?_) (fun h1 => ?_)))
  rotate_left
  · have : i = L.length := by omega
    subst this
    rw [List.take_length] at hB
    exact row_Text_l1_out (row_Text_c0_wp (string_W hM hB (by rw [List.take_length] at hlen; omega) fun M' e => q M' e))
  · obtain ⟨c, hc⟩ : ∃ c, L[i]? = some c := ⟨_, List.getElem?_eq_getElem (by omega)⟩
    have hcp := hp c (List.mem_of_getElem? hc)
    have hstep : textB (L.take (i + 1)) = textB (L.take i) ++ cellB c := by
      rw [List.take_succ_eq_append_getElem (by omega), (List.getElem?_eq_some_iff.1 hc).2]
      simp [textB]
    have next : ∀ {N : Mem}, Bld M N M.size (textB (L.take i) ++ cellB c) → ∃ j, j < L.length - i ∧ txI M M.size L (.slice ad L.length cap) j (row_Text_l1_s (.pointer (some ⟨M.size, 0, none⟩)) (.slice ad L.length cap) (.int .i64 L.length) (.int .i64 ((i : Int) + 1)) [] N) := fun {N} hN => ⟨L.length - (i + 1), by omega, i + 1, N, rfl, hstep ▸ hN, by omega, rfl⟩
    refine rd (h.ext hB.ext) (by omega) (by rw [Int.toNat_natCast]; exact hc) fun p => ⟨rfl, fun b4 M5 hb4 hM5 => ⟨⟨rfl, rfl, by decide⟩, fun M6 hM6 => ?_⟩⟩
    have e5 : Ext M' M5 := hM5 ▸ Ext.push _ _
    have hb45 : b4 < M5.size := by rw [hM5, hb4]; simp
    have e6 : Ext M' M6 := hM6 ▸ e5.set (by omega) hb45 _
    have g6 : M6.get b4 = some (.cells (Enc.enc c) 53 true) := by rw [hM6, Mem.get_set _ _ _ hb45, if_pos rfl]; rfl
    have hB6 := hB.more e6
    refine LGet.mk (v := .int .u8 c.kind) rfl ?_
    by_cases hk : c.kind = 2
    · refine s_eqT hk (wpIf.tt (row_Text_c2_wp (step_add (by omega) (by omega) (next ?_))))
      unfold cellB; rw [if_pos hk, List.append_nil]; exact hB6
    refine s_eqF hk (wpIf.ff (LGet.mk (v := .int .i32 c.rune) rfl ?_))
    have keep : ∀ {N : Mem}, Oth M6 N → KeepB [b4] M6 N := fun {N} o x hx _ => by
      rw [List.mem_singleton] at hx; subst hx
      rw [g6]; exact o _ _ _ g6 (by decide) (by decide)
    by_cases hr : c.rune = 0
    · refine s_eqT hr (wpIf.tt (wbyte_W hM hB6 (by omega) fun M12 _ hB12 o12 => ⟨keep o12, row_Text_c2_wp (step_add (by omega) (by omega) (next ?_))⟩))
      unfold cellB; rw [if_neg hk, if_pos hr]; exact hB12
    refine s_eqF hr (wpIf.ff (LGet.mk (v := .int .i32 c.rune) rfl (wrune_W hM hB6 (by omega) hcp.1 fun M15 _ hB15 o15 => ⟨keep o15, LGetN.as (.agg #[.int .i32 c.m1, .int .i32 c.m2]) (Nat.le_of_ble_eq_true rfl) rfl ?_⟩)))
    have g15 : M15.get b4 = some (.cells (Enc.enc c) 53 true) := o15 _ _ _ g6 (by decide) (by decide)
    refine ⟨row_Text_l3_m, tmI M M.size L (.slice ad L.length cap) i c (textB (L.take i) ++ runeB c.rune) b4, ⟨2, 0, M15, rfl, by simpa using hB15, g15, by omega, rfl⟩, ?_⟩
    rintro k s ⟨j, N, rfl, hN, gN, hj, rfl⟩
    refine row_Text_l3_wp (I := tmI M M.size L (.slice ad L.length cap) i c (textB (L.take i) ++ runeB c.rune) b4) ?_
    have hlr := runeB_len c.rune
    have hlm : ∀ m : Int, (markB m).length ≤ 2 := fun m => by unfold markB; split; simp; exact runeB_len m
    have hl1 := hlm c.m1
    have hl2 := hlm c.m2
    have : j = 0 ∨ j = 1 ∨ j = 2 := by omega
    rcases this with rfl | rfl | rfl
    · refine s_ltT (by decide) (wpIf.tt ⟨.int .i32 c.m1, rfl, ?_⟩)
      by_cases hm : c.m1 = 0
      · refine s_neF (fun h => h hm) (wpIf.ff (step_add (by omega) (by omega) ⟨1, by omega, 1, N, rfl, ?_, gN, by omega, rfl⟩))
        simpa [markB, hm] using hN
      · refine s_neT hm (wpIf.tt (wrune_W hM hN (by simp; omega) hcp.2.1 fun N5 _ hB5 o5 => ⟨fun x hx _ => ?_, step_add (by omega) (by omega) ⟨1, by omega, 1, N5, rfl, ?_, o5 _ _ _ gN (by decide) (by decide), by omega, rfl⟩⟩))
        · rw [List.mem_singleton] at hx; subst hx; rw [gN]; exact o5 _ _ _ gN (by decide) (by decide)
        · simpa [markB, hm] using hB5
    · refine s_ltT (by decide) (wpIf.tt ⟨.int .i32 c.m2, rfl, ?_⟩)
      by_cases hm : c.m2 = 0
      · refine s_neF (fun h => h hm) (wpIf.ff (step_add (by omega) (by omega) ⟨0, by omega, 2, N, rfl, ?_, gN, by omega, rfl⟩))
        have e : markB c.m2 = [] := by simp [markB, hm]
        simpa [e] using hN
      · refine s_neT hm (wpIf.tt (wrune_W hM hN (by simp; omega) hcp.2.2 fun N5 _ hB5 o5 => ⟨fun x hx _ => ?_, step_add (by omega) (by omega) ⟨0, by omega, 2, N5, rfl, ?_, o5 _ _ _ gN (by decide) (by decide), by omega, rfl⟩⟩))
        · rw [List.mem_singleton] at hx; subst hx; rw [gN]; exact o5 _ _ _ gN (by decide) (by decide)
        · have e : markB c.m2 = runeB c.m2 := by simp [markB, hm]
          simpa [e] using hB5
    · refine s_ltF (by decide) (wpIf.ff (blockK.hit (blockK.n (seqK.n (row_Text_c2_wp (step_add (by omega) (by omega) (next ?_)))))))
      unfold cellB; rw [if_neg hk, if_neg hr]
      simpa using hN
end
end Go.Proofs.Ytkelbhcaecojkaa.Run
