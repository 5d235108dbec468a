
/- What the small functions of chapter 10 do: contracts over the calculus. -/
import Derived.Test.YtklnbkacnghdnaaVc
import Derived.Test.YtklnbkacnghdnaaStep
namespace Go.Proofs.Ytklnbkacnghdnaa.Run
open Go Go.RowKit
set_option linter.unusedVariables false
set_option linter.unusedSimpArgs false
structure At9 where
  a1 : Int
  a2 : Int
  a3 : Int
  a4 : Int
  a5 : Int
  a6 : Int
  a7 : Int
  a8 : Int
  a9 : Int
deriving DecidableEq
structure Ce where
  rune : Int
  m1 : Int
  m2 : Int
  kind : Int
  attr : At9
  label : Int
deriving DecidableEq
def At9.cells (a : At9) : List Value := [.int .u8 a.a1, .int .u8 a.a2, .int .u8 a.a3, .int .u8 a.a4, .int .u8 a.a5, .int .u8 a.a6, .int .u8 a.a7, .int .u8 a.a8, .int .u16 a.a9]
instance : Enc Ce := ⟨14, fun c => [.int .i32 c.rune, .int .i32 c.m1, .int .i32 c.m2, .int .u8 c.kind, .int .u8 c.attr.a1, .int .u8 c.attr.a2, .int .u8 c.attr.a3, .int .u8 c.attr.a4, .int .u8 c.attr.a5, .int .u8 c.attr.a6, .int .u8 c.attr.a7, .int .u8 c.attr.a8, .int .u16 c.attr.a9, .int .u8 c.label], fun _ => rfl, by decide⟩
abbrev Ce.val (c : Ce) : Value := .agg (Enc.enc c).toArray
section
variable {M : Mem} {Q : Value → Mem → Prop}
theorem which_W (hM : M.base ≤ M.size) {b : Bool} {x y : Int} (q : Q (.int .u8 (if b then x else y)) M) : W funs known (.func (.func n_label_which) #[] #[]) [.bool b, .int .u8 x, .int .u8 y] M Q := by
  refine label_which_wp hM ?_
  cases b
  · exact wpIf.ff q
  · exact wpIf.tt q
def Ce.half (c : Ce) : Ce := ⟨0, 0, 0, 2, c.attr, c.label⟩
def zeroC : Ce := ⟨0, 0, 0, 0, ⟨0, 0, 0, 0, 0, 0, 0, 0, 0⟩, 0⟩
structure Lv where
  n : Int
instance : Enc Lv := ⟨1, fun a => [.int .u8 a.n], fun _ => rfl, by decide⟩
abbrev soI (M : Mem) (L : List Lv) (v : Value) : Nat → LS → Prop := fun k s => ∃ (i : Nat), s = label_some_Level_l1_s (.func (.func n_label_Join_1) #[] #[]) v (.int .i64 L.length) (.int .i64 i) [] M ∧ i ≤ L.length ∧ (∀ (x : Nat) (a : Lv), L[x]? = some a → x < i → ¬ a.n > 0) ∧ k = L.length - i
theorem join_W (hM : M.base ≤ M.size) {v : Value} {L : List Lv} (h : Sl M v L) (hL : L.length < 2 ^ 60) (q : ∀ b : Bool, (b = true ↔ ∃ a ∈ L, a.n > 0) → Q (.int .u8 (if b then 1 else 0)) M) : W funs known (.func (.func n_label_Join) #[] #[]) [v] M Q := by
  obtain ⟨ad, cap, rfl⟩ := h.shape
  refine label_Join_wp hM (label_some_Level_wp hM (step_len ?_))
  refine ⟨label_some_Level_l1_m, soI M L (.slice ad L.length cap), ⟨L.length, 0, rfl, Nat.zero_le _, fun x a _ hx => absurd hx (by omega), rfl⟩, ?_⟩
  rintro k s ⟨i, rfl, hi, hA, rfl⟩
  refine label_some_Level_l1_wp (I := soI M L (.slice ad L.length cap)) ?_
  refine step_lss (wpIf.dec (fun h1 => ?_) (fun h1 => ?_))
  · have hlt : i < L.length := by omega
    obtain ⟨a, ha⟩ : ∃ a, L[i]? = some a := ⟨_, List.getElem?_eq_getElem hlt⟩
    obtain ⟨p, hp, hat⟩ := h.addr (i := (i : Int)) (by omega) (a := a) (by rw [Int.toNat_natCast]; exact ha) (j := .i64) M
    refine ⟨p, hp, _, hat.load1 rfl, label_Join_1_wp hM (step_gtr (wpIf.dec (fun h2 => ?_) (fun h2 => ?_)))⟩
    · exact which_W hM (q true ⟨fun _ => ⟨a, List.mem_of_getElem? ha, h2⟩, fun _ => rfl⟩)
    · refine step_add (by omega) (by omega) ⟨L.length - (i + 1), by omega, i + 1, rfl, by omega, fun x c hx hxi => ?_, rfl⟩
      rcases Nat.lt_or_eq_of_le (Nat.le_of_lt_succ hxi) with h3 | rfl
      · exact hA x c hx h3
      · rw [ha] at hx; cases hx; exact h2
  · refine blockK.hit (label_some_Level_c0_wp (which_W hM (q false ⟨fun h => (by cases h), ?_⟩)))
    rintro ⟨a, ha, h2⟩
    obtain ⟨x, hx⟩ := List.mem_iff_getElem?.1 ha
    exact absurd h2 (hA x a hx (by have := (List.getElem?_eq_some_iff.1 hx).1; omega))
theorem lit2 (x y : Int) (M : Mem) : ∃ v M', opSem (.lit 48 2 [(.int .u8 0), (.int .u8 0)] [(0, (1, (.const (.int .u8 x)))), (1, (1, (.const (.int .u8 y))))]) [] M = some (v, M') ∧ Ext M M' ∧ Sl M' v [(⟨x⟩ : Lv), ⟨y⟩] := by
  refine ⟨.slice (some ⟨M.size, 0, some 0⟩) 2 2, M.push (.cells [.int .u8 x, .int .u8 y] 48 true), rfl, Ext.push _ _, some ⟨M.size, 0, some 0⟩, 2, rfl, Nat.le_refl _, .inr ⟨_, _, _, rfl, ?_, trivial⟩⟩
  simp only [Mem.loadN, Mem.get_push, if_true]
  rfl
def joinF (x y : Int) : Int := if x > 0 ∨ y > 0 then 1 else 0
theorem join2 {b : Bool} {x y : Int} (h : b = true ↔ ∃ a ∈ [(⟨x⟩ : Lv), ⟨y⟩], a.n > 0) : (if b then (1 : Int) else 0) = joinF x y := by
  have : (∃ a ∈ [(⟨x⟩ : Lv), ⟨y⟩], a.n > 0) ↔ (x > 0 ∨ y > 0) := by simp
  rw [this] at h
  unfold joinF
  by_cases hc : x > 0 ∨ y > 0
  · rw [if_pos hc, if_pos (h.2 hc)]
  · rw [if_neg hc, if_neg (fun hb => hc (h.1 hb))]
def Ce.raise (l : Int) (c : Ce) : Ce := { c with label := joinF c.label l }
def Ce.bare (c : Ce) : Ce := ⟨0, 0, 0, 0, c.attr, c.label⟩
end
end Go.Proofs.Ytklnbkacnghdnaa.Run
