/- What filled, Row and Other of the document's answer to chapter 10 do: rows that are drawn. -/
import Derived.Test.YtkelbhcaecojkaaRowD
namespace Go.Proofs.Ytkelbhcaecojkaa.Run
open Go Go.RowKit
set_option linter.unusedVariables false
set_option linter.unusedSimpArgs false
def Ce.mark (c : Ce) (m : Int) : Ce := if c.m1 = 0 then { c with m1 := m } else if c.m2 = 0 then { c with m2 := m } else c
def Ce.marked (c : Ce) (m l : Int) : Ce := (c.mark m).raise l
section
variable {M : Mem} {Q : Value → Mem → Prop}
end
end Go.Proofs.Ytkelbhcaecojkaa.Run
namespace Go.Proofs.Ytkelbhcaecojkaa.Run
open Go Go.RowKit
set_option linter.unusedVariables false
set_option linter.unusedSimpArgs false
structure Dr where
  rune : Int
  marks : Int
  attr : Int
  wide : Bool
  high : Bool
instance : Enc Dr := ⟨5, fun d => [.int .u8 d.rune, .int .u8 d.marks, .int .u8 d.attr, .bool d.wide, .bool d.high], fun _ => rfl, by decide⟩
abbrev Dr.val (d : Dr) : Value := .agg (Enc.enc d).toArray
structure Dr.ok (d : Dr) : Prop where
  rune : 0 ≤ d.rune ∧ d.rune ≤ 255
  marks : 0 ≤ d.marks ∧ d.marks ≤ 255
  attr : 0 ≤ d.attr ∧ d.attr ≤ 255
def attrF (n : Int) : At9 := ⟨n % 3, n % 5, 0, 0, n / 3 % 2, n % 2, 0, 0, n % 4⟩
def cellK (d : Dr) (j : Nat) : Ce := ⟨97 + d.rune % 26, if 1 ≤ j then 769 else 0, if 2 ≤ j then 769 else 0, 0, attrF d.attr, 0⟩
def cellF (d : Dr) : Ce := ⟨97 + d.rune % 26, if 1 ≤ d.marks % 8 then 769 else 0, if 2 ≤ d.marks % 8 then 769 else 0, 0, attrF d.attr, if d.high then 1 else 0⟩
section
variable {M : Mem} {Q : Value → Mem → Prop}
theorem refwithin_W (hM : M.base ≤ M.size) {x a b : Int} (q : Q (.int .i64 (max a (min x b))) M) : W funs known (.func (.func n_ref10_within) #[] #[]) [.int .i64 x, .int .i64 a, .int .i64 b] M Q :=
  ref10_within_wp hM (step_min (step_max q))
theorem refbare_W (hM : M.base ≤ M.size) {c : Ce} (q : ∀ M', Ext M M' → Q c.bare.val M') : W funs known (.func (.func n_ref10_bare) #[] #[]) [c.val] M Q := by
  refine ref10_bare_wp hM ⟨rfl, fun b1 M2 hb1 hM2 => ⟨rfl, fun b3 M4 hb3 hM4 => ?_⟩⟩
  have e4 : Ext M M4 := (Ext.push' hM2).trans (Ext.push' hM4)
  have s2 : M2.size = M.size + 1 := by rw [hM2]; rfl
  have s4 : M4.size = M2.size + 1 := by rw [hM4]; rfl
  exact ⟨c.bare.val, rfl, ⟨rfl, rfl, by decide⟩, fun M5 hM5 => LGetN.as c.bare.val (by exact Nat.le_refl 14) rfl (q _ (hM5 ▸ e4.set (by omega) (by omega) _))⟩
theorem refown_W (hM : M.base ≤ M.size) {v : Value} {L : List Ce} (h : Sl M v L) (hL : L.length ≤ 2 ^ 30) (q : ∀ M' r, Ext M M' → New 53 M M' r L → Q r M') : W funs known (.func (.func n_ref10_own) #[] #[]) [v] M Q := by
  obtain ⟨ad, cap, rfl⟩ := h.shape
  refine ref10_own_wp hM (step_lit ([] : List Ce) rfl rfl fun v1 M2 e2 n2 => ?_)
  exact step_app e2 hM n2 (h.ext e2).srcs (by simp; omega) (by simp; omega) fun v3 M4 e4 n4 _ => q M4 v3 e4 n4
theorem refbreak_W (hM : M.base ≤ M.size) {v : Value} {L : List Ce} (h : Sl M v L) (hL : L.length ≤ 2 ^ 30) {x : Int} (q : ∀ M' r, Ext M M' → New 53 M M' r (breakF L x) → Q r M') : W funs known (.func (.func n_ref10_Break) #[] #[]) [v, .int .i64 x] M Q := by
  obtain ⟨ad, cap, rfl⟩ := h.shape
  refine ref10_Break_wp hM (refown_W hM h hL fun M2 r e2 n2 => step_len (refwithin_W (e2.ok hM) ?_))
  rw [← clampN_eq]
  rw [breakF_clamp] at q
  have hj := clampN_le x L.length
  generalize clampN x L.length = j at q hj ⊢
  have stay : ¬ cutF L j → Q r M2 := fun hc => by rw [if_neg hc] at q; exact q M2 r e2 n2
  have hS := h.ext e2
  refine step_gtr (wpIf.dec (fun c1 => step_len (step_lss (wpIf.dec (fun c2 => step_sub (by omega) (by omega) ?_) (fun c2 => ?_)))) (fun c1 => ?_))
  · obtain ⟨a, ha⟩ : ∃ a, L[j - 1]? = some a := ⟨_, List.getElem?_eq_getElem (by omega)⟩
    obtain ⟨c, hc⟩ : ∃ c, L[j]? = some c := ⟨_, List.getElem?_eq_getElem (by omega)⟩
    have hj1 : ((j : Int) - 1).toNat = j - 1 := by omega
    have hj2 : (j : Int) - 1 = ((j - 1 : Nat) : Int) := by omega
    refine rd_f hS (by omega) (by rw [hj1]; exact ha) (f := 3) rfl fun _ _ => step_eql (wpIf.dec (fun d1 => ?_) (fun d1 => ?_))
    · refine rd_f hS (by omega) (by rw [Int.toNat_natCast]; exact hc) (f := 3) rfl fun _ _ => step_eql (wpIf.dec (fun d2 => ?_) (fun d2 => ?_))
      · refine step_sub (by omega) (by omega) (step_sub (by omega) (by omega) ?_)
        rw [if_pos (cutF_iff.2 ⟨a, c, by omega, ha, hc, d1, d2⟩)] at q
        refine rd hS (by omega) (by rw [hj1]; exact ha) fun _ => refbare_W (e2.ok hM) fun M23 e23 => ?_
        rw [hj2]
        have e223 := e2.trans e23
        refine wr e223 hM (n2.ext e23) a.bare ha rfl fun u M26 e26 n26 => ?_
        have hc' : (L.set (j - 1) a.bare)[j]? = some c := by rw [List.getElem?_set_ne (by omega)]; exact hc
        refine rd (h.ext e26) (by omega) (by rw [Int.toNat_natCast]; exact hc) fun _ => refbare_W (e26.ok hM) fun M30 e30 => ?_
        refine wr (e26.trans e30) hM (n26.ext e30) c.bare hc' rfl fun u M33 e33 n33 => q M33 r e33 ?_
        rw [bareAt_some ha, bareAt_some hc']
        exact n33
      · refine stay fun hcut => ?_
        obtain ⟨u, w, _, hu, hw, k1, k2⟩ := cutF_iff.1 hcut
        rw [hc] at hw; cases hw; exact d2 k2
    · refine stay fun hcut => ?_
      obtain ⟨u, w, _, hu, hw, k1, k2⟩ := cutF_iff.1 hcut
      rw [ha] at hu; cases hu; exact d1 k1
  · refine stay fun hcut => ?_
    obtain ⟨u, w, _, hu, hw, k1, k2⟩ := cutF_iff.1 hcut
    have := (List.getElem?_eq_some_iff.1 hw).1
    omega
  · refine stay fun hcut => ?_
    obtain ⟨u, w, h0, hu, hw, k1, k2⟩ := cutF_iff.1 hcut
    omega
def numC (wide : Bool) : Nat := if wide then 2 else 1
theorem putC_len (c : Ce) (wide : Bool) : (putC c wide).length = numC wide := by unfold putC numC; split <;> rfl
theorem set_put1 {B : List Ce} {i : Nat} (h : i + 1 ≤ B.length) (a : Ce) : B.set i a = B.take i ++ [a] ++ B.drop (i + 1) := by
  rw [List.set_eq_take_append_cons_drop, if_pos (by omega), List.append_assoc]; rfl
theorem set_put2 {B : List Ce} {i : Nat} (h : i + 2 ≤ B.length) (a c : Ce) : (B.set (i + 1) c).set i a = B.take i ++ [a, c] ++ B.drop (i + 2) := by
  apply List.ext_getElem?
  intro k
  simp only [List.getElem?_set, List.length_set, List.getElem?_append, List.length_append, List.length_take, List.length_cons, List.length_nil, List.getElem?_take, List.getElem?_drop]
  by_cases h1 : k < i
  · rw [if_neg (by omega), if_neg (by omega), if_pos (by omega), if_pos (by omega), if_pos h1]
  · by_cases h2 : k = i
    · subst h2
      rw [if_pos rfl, if_pos (by omega), if_pos (by omega), if_neg (by omega), show k - min k B.length = 0 by omega]; rfl
    · by_cases h3 : k = i + 1
      · subst h3
        rw [if_neg (by omega), if_pos rfl, if_pos (by omega), if_pos (by omega), if_neg (by omega), show i + 1 - min i B.length = 1 by omega]; rfl
      · rw [if_neg (by omega), if_neg (by omega), if_neg (by omega)]
        congr 1; omega
set_option maxHeartbeats 1000000 in
theorem refput_W (hM : M.base ≤ M.size) {v : Value} {L : List Ce} (h : Sl M v L) (hL : L.length ≤ 2 ^ 30) {x : Int} (hx : -(2 ^ 40) ≤ x ∧ x ≤ 2 ^ 40) {c : Ce} {wide : Bool} (q : ∀ M' r, Ext M M' → New 53 M M' r (putF L x c wide) → Q r M') : W funs known (.func (.func n_ref10_Put) #[] #[]) [v, .int .i64 x, c.val, .bool wide] M Q := by
  obtain ⟨ad, cap, rfl⟩ := h.shape
  refine ref10_Put_wp hM ⟨rfl, fun b1 M2 hb1 hM2 => ?_⟩
  have e2 : Ext M M2 := Ext.push' hM2
  have s2 : M2.size = M.size + 1 := by rw [hM2]; rfl
  have k2 := e2.ok hM
  refine wpIf.mk (fun hw => ?_) (fun hw => ?_)
  · subst hw
    have main : putF L x c true = if x < 0 ∨ x + (2 : Nat) > L.length then L else (brk2 L x (x + (2 : Nat))).take x.toNat ++ putC c true ++ (brk2 L x (x + (2 : Nat))).drop (x + (2 : Nat)).toNat := by unfold putF; rw [putC_len]; rfl
    rw [main] at q
    refine ref10_Put_c0_wp ?_
    refine step_lss (wpIf.dec (fun h1 => ?_) (fun h1 => step_add (by omega) (by omega) (step_len (step_gtr (wpIf.dec (fun h2 => ?_) (fun h2 => ?_))))))
    · rw [if_pos (.inl h1)] at q
      exact refown_W k2 (h.ext e2) hL fun M' r e' n' => ⟨e'.keep _, q M' r (e2.trans e') (n'.old e2)⟩
    · rw [if_pos (.inr h2)] at q
      exact refown_W k2 (h.ext e2) hL fun M' r e' n' => ⟨e'.keep _, q M' r (e2.trans e') (n'.old e2)⟩
    rw [if_neg (by omega)] at q
    obtain ⟨i, rfl⟩ : ∃ i : Nat, x = (i : Int) := ⟨x.toNat, by omega⟩
    refine ref10_Put_c1_wp ?_
    refine refbreak_W k2 (h.ext e2) hL fun M3 r1 e3 n3 => ⟨e3.keep _, step_add (by omega) (by omega) ?_⟩
    have k3 := e3.ok k2
    refine refbreak_W k3 n3.sl (by rw [breakF_len]; exact hL) fun M5 r4 e5 n5 => ⟨e5.keep _, ?_⟩
    have n5 : New 53 M3 M5 r4 (brk2 L i (i + (2 : Nat))) := n5
    have hB := brk2_len L i (i + (2 : Nat))
    generalize brk2 L i (i + (2 : Nat)) = B at q n5 hB
    rw [Int.toNat_natCast, show ((i : Int) + (2 : Nat)).toNat = i + 2 by omega] at q
    have n25 : New 53 M2 M5 r4 B := n5.old e3
    have e25 := e3.trans e5
    refine ⟨_, rfl, rfl, by decide, fun M6 hM6 => ?_⟩
    have e26 : Ext _ M6 := hM6 ▸ e25.both (b := b1) (by omega) (.cells (Enc.enc ({ c with kind := 0 } : Ce)) 53 true)
    have n26 : New 53 _ M6 r4 B := hM6 ▸ n25.both (b := b1) (by omega) (.cells (Enc.enc ({ c with kind := 0 } : Ce)) 53 true)
    have eMP : Ext M (M2.set b1 (.cells (Enc.enc ({ c with kind := 0 } : Ce)) 53 true)) := e2.set (by omega) (by omega) _
    generalize hP : M2.set b1 (.cells (Enc.enc ({ c with kind := 0 } : Ce)) 53 true) = P at e26 n26 eMP
    have sP : P.size = M2.size := by rw [← hP]; rfl
    have kP := eMP.ok hM
    refine wpIf.tt ⟨_, rfl, rfl, by decide, fun M8 hM8 => ?_⟩
    have e28 : Ext _ M8 := hM8 ▸ e26.both (b := b1) (by omega) (.cells (Enc.enc ({ c with kind := 1 } : Ce)) 53 true)
    have n28 : New 53 _ M8 r4 B := hM8 ▸ n26.both (b := b1) (by omega) (.cells (Enc.enc ({ c with kind := 1 } : Ce)) 53 true)
    have eMR : Ext M (P.set b1 (.cells (Enc.enc ({ c with kind := 1 } : Ce)) 53 true)) := eMP.set (by omega) (by omega) _
    generalize hR : P.set b1 (.cells (Enc.enc ({ c with kind := 1 } : Ce)) 53 true) = R at e28 n28 eMR
    have sR : R.size = P.size := by rw [← hR]; rfl
    have kR := eMR.ok hM
    obtain ⟨y, hy⟩ : ∃ y, B[i]? = some y := ⟨_, List.getElem?_eq_getElem (by omega)⟩
    obtain ⟨z, hz⟩ : ∃ z, B[i + 1]? = some z := ⟨_, List.getElem?_eq_getElem (by omega)⟩
    refine step_add (by omega) (by omega) ⟨c.half.val, rfl, ?_⟩
    rw [show ((i : Int) + 1) = ((i + 1 : Nat) : Int) by omega]
    refine wr e28 kR n28 c.half hz rfl fun u M14 e14 n14 => ⟨keepE (by omega) e28 e14, ?_⟩
    have hy' : (B.set (i + 1) c.half)[i]? = some y := by rw [List.getElem?_set_ne (by omega)]; exact hy
    refine wr e14 kR n14 ({ c with kind := 1 } : Ce) hy' rfl fun u M17 e17 n17 => ⟨keepE (by omega) e14 e17, q M17 r4 (eMR.trans e17) (New.old eMR ?_)⟩
    rw [set_put2 (by omega)] at n17
    exact n17
  · subst hw
    have main : putF L x c false = if x < 0 ∨ x + (1 : Nat) > L.length then L else (brk2 L x (x + (1 : Nat))).take x.toNat ++ putC c false ++ (brk2 L x (x + (1 : Nat))).drop (x + (1 : Nat)).toNat := by unfold putF; rw [putC_len]; rfl
    rw [main] at q
    refine ref10_Put_c0_wp ?_
    refine step_lss (wpIf.dec (fun h1 => ?_) (fun h1 => step_add (by omega) (by omega) (step_len (step_gtr (wpIf.dec (fun h2 => ?_) (fun h2 => ?_))))))
    · rw [if_pos (.inl h1)] at q
      exact refown_W k2 (h.ext e2) hL fun M' r e' n' => ⟨e'.keep _, q M' r (e2.trans e') (n'.old e2)⟩
    · rw [if_pos (.inr h2)] at q
      exact refown_W k2 (h.ext e2) hL fun M' r e' n' => ⟨e'.keep _, q M' r (e2.trans e') (n'.old e2)⟩
    rw [if_neg (by omega)] at q
    obtain ⟨i, rfl⟩ : ∃ i : Nat, x = (i : Int) := ⟨x.toNat, by omega⟩
    refine ref10_Put_c1_wp ?_
    refine refbreak_W k2 (h.ext e2) hL fun M3 r1 e3 n3 => ⟨e3.keep _, step_add (by omega) (by omega) ?_⟩
    have k3 := e3.ok k2
    refine refbreak_W k3 n3.sl (by rw [breakF_len]; exact hL) fun M5 r4 e5 n5 => ⟨e5.keep _, ?_⟩
    have n5 : New 53 M3 M5 r4 (brk2 L i (i + (1 : Nat))) := n5
    have hB := brk2_len L i (i + (1 : Nat))
    generalize brk2 L i (i + (1 : Nat)) = B at q n5 hB
    rw [Int.toNat_natCast, show ((i : Int) + (1 : Nat)).toNat = i + 1 by omega] at q
    have n25 : New 53 M2 M5 r4 B := n5.old e3
    have e25 := e3.trans e5
    refine ⟨_, rfl, rfl, by decide, fun M6 hM6 => ?_⟩
    have e26 : Ext _ M6 := hM6 ▸ e25.both (b := b1) (by omega) (.cells (Enc.enc ({ c with kind := 0 } : Ce)) 53 true)
    have n26 : New 53 _ M6 r4 B := hM6 ▸ n25.both (b := b1) (by omega) (.cells (Enc.enc ({ c with kind := 0 } : Ce)) 53 true)
    have eMP : Ext M (M2.set b1 (.cells (Enc.enc ({ c with kind := 0 } : Ce)) 53 true)) := e2.set (by omega) (by omega) _
    generalize hP : M2.set b1 (.cells (Enc.enc ({ c with kind := 0 } : Ce)) 53 true) = P at e26 n26 eMP
    have sP : P.size = M2.size := by rw [← hP]; rfl
    have kP := eMP.ok hM
    refine wpIf.ff ?_
    obtain ⟨y, hy⟩ : ∃ y, B[i]? = some y := ⟨_, List.getElem?_eq_getElem (by omega)⟩
    refine wr e26 kP n26 ({ c with kind := 0 } : Ce) hy rfl fun u M17 e17 n17 => ⟨keepE (by omega) e26 e17, q M17 r4 (eMP.trans e17) (New.old eMP ?_)⟩
    rw [set_put1 (by omega)] at n17
    exact n17
end
end Go.Proofs.Ytkelbhcaecojkaa.Run
namespace Go.Proofs.Ytkelbhcaecojkaa.Run
open Go Go.RowKit
set_option linter.unusedVariables false
set_option linter.unusedSimpArgs false
section
variable {M : Mem} {Q : Value → Mem → Prop}
abbrev rnI (P : Mem) (n : Nat) (x : Int) (c : Ce) (b1 : Nat) : Nat → LS → Prop := fun k s => ∃ (i : Nat) (M' : Mem) (v : Value), s = ref10_New_l1_s (.int .i64 x) v (.int .i64 i) b1 (.int .i32 c.rune) (.int .i32 c.m1) (.int .i32 c.m2) (.int .u8 c.kind) (.int .u8 c.attr.a1) (.int .u8 c.attr.a2) (.int .u8 c.attr.a3) (.int .u8 c.attr.a4) (.int .u8 c.attr.a5) (.int .u8 c.attr.a6) (.int .u8 c.attr.a7) (.int .u8 c.attr.a8) (.int .u16 c.attr.a9) (.int .u8 c.label) [] M' ∧ Ext P M' ∧ Mine 53 P M' v (List.replicate i c) ∧ i ≤ n ∧ k = n - i
set_option maxHeartbeats 1000000 in
theorem refnew_W (hM : M.base ≤ M.size) {x : Int} {c : Ce} (hx : x ≤ 2 ^ 30) (q : ∀ M' r, Ext M M' → Mine 53 M M' r (List.replicate x.toNat c) → Q r M') : W funs known (.func (.func n_ref10_New) #[] #[]) [.int .i64 x, c.val] M Q := by
  refine ref10_New_wp hM ⟨rfl, fun b1 P hb1 hP => ?_⟩
  have eP : Ext M P := Ext.push' hP
  have sP : P.size = M.size + 1 := by rw [hP]; rfl
  have kP := eP.ok hM
  refine ⟨ref10_New_l1_m, rnI P x.toNat x c b1, ⟨x.toNat, 0, P, .slice none 0 0, rfl, Ext.refl _, .inr ⟨rfl, rfl⟩, Nat.zero_le _, rfl⟩, ?_⟩
  rintro k s ⟨i, M', v, rfl, eM, nM0, hi, rfl⟩
  have nM : Mine 53 P M' v (List.replicate i c) := nM0
  refine ref10_New_l1_wp (I := rnI P x.toNat x c b1) ?_
  refine step_lss (wpIf.dec (fun h1 => ?_) (fun h1 => ?_))
  · refine step_lit [c] rfl rfl fun v2 M3 e3 n3 => ⟨e3.keep _, ?_⟩
    refine step_appM (eM.trans e3) kP (nM.ext e3) n3.sl.srcs (by simp; omega) (by simp; omega) fun v4 M5 e5 n5 _ => ⟨keepE (by omega) (eM.trans e3) e5, step_add (by omega) (by omega) ⟨x.toNat - (i + 1), by omega, i + 1, M5, v4, rfl, e5, ?_, by omega, rfl⟩⟩
    rw [List.replicate_succ']; exact n5
  · have : i = x.toNat := by omega
    subst this
    exact blockK.hit (ref10_New_c0_wp (q M' v (eP.trans eM) (nM.old eP)))
theorem attr_W (hM : M.base ≤ M.size) {n : Int} (hn : 0 ≤ n ∧ n ≤ 255) (q : ∀ M', Ext M M' → Q (.agg (attrF n).cells.toArray) M') : W funs known (.func (.func n_ref10_Attr) #[] #[]) [.int .u8 n] M Q := by
  refine ref10_Attr_wp hM ⟨rfl, fun b1 M2 hb1 hM2 => ?_⟩
  have e2 : Ext M M2 := Ext.push' hM2
  have s2 : M2.size = M.size + 1 := by rw [hM2]; rfl
  refine step_rem8 (by omega) (by omega) (step_rem8 (by omega) (by omega) ⟨_, rfl, step_quo8 (by omega) (by omega) (by omega) (step_rem8 (by omega) (by omega) (step_rem8 (by omega) (by omega) ⟨_, rfl, step_rem8 (by omega) (by omega) (step_conv (IntWalk.u16_in _ (by omega)) ⟨.agg (attrF n).cells.toArray, rfl, ⟨rfl, rfl, by decide⟩, fun M13 hM13 => LGetN.as (.agg (attrF n).cells.toArray) (by exact Nat.le_refl 9) rfl (q _ (hM13 ▸ e2.set (by omega) (by omega) _))⟩)⟩))⟩)
abbrev ceI (M₀ : Mem) (d : Dr) (b1 b3 b11 : Nat) : Nat → LS → Prop := fun k s => ∃ (j : Nat) (M' : Mem), s = ref10_Draft_Cell_l1_s (.int .i64 j) b1 (.int .u8 d.rune) (.int .u8 d.marks) (.int .u8 d.attr) (.bool d.wide) (.bool d.high) b3 (.int .i32 0) (.int .i32 0) (.int .i32 0) (.int .u8 0) (.int .u8 0) (.int .u8 0) (.int .u8 0) (.int .u8 0) (.int .u8 0) (.int .u8 0) (.int .u8 0) (.int .u8 0) (.int .u16 0) (.int .u8 0) b11 (Enc.enc (cellK d j)) [] M' ∧ Ext M₀ M' ∧ b11 < M'.size ∧ j ≤ 2 ∧ (j : Int) ≤ d.marks % 8 ∧ k = 2 - j
set_option maxHeartbeats 1000000 in
theorem cell_W (hM : M.base ≤ M.size) {d : Dr} (hd : d.ok) (q : ∀ M', Ext M M' → Q (cellF d).val M') : W funs known (.func (.func n_ref10_Draft_Cell) #[] #[]) [d.val] M Q := by
  obtain ⟨o1, o2, o3⟩ := hd
  refine ref10_Draft_Cell_wp hM ⟨rfl, fun b1 M2 hb1 hM2 => ⟨rfl, fun b3 M4 hb3 hM4 => ?_⟩⟩
  have e2 : Ext M M2 := Ext.push' hM2
  have e4 : Ext M M4 := e2.trans (Ext.push' hM4)
  have s2 : M2.size = M.size + 1 := by rw [hM2]; rfl
  have s4 : M4.size = M2.size + 1 := by rw [hM4]; rfl
  refine step_rem8 (by omega) (by omega) (step_conv (IntWalk.i32_in _ (by omega)) (step_addK (IntWalk.i32_in _ (by omega)) ?_))
  refine attr_W (freeze_ok _) o3 fun M9 e9 => ⟨e9.keepF _, ?_⟩
  have e49 := Ext.thaw e9
  have s9 := e49.size
  refine ⟨(cellK d 0).val, rfl, rfl, fun b11 M12 hb11 hM12 => ⟨⟨rfl, rfl, by decide⟩, fun M13 hM13 => ?_⟩⟩
  have e12 : Ext M M12 := (e4.trans e49).trans (Ext.push' hM12)
  have s12 : M12.size = (M9.thaw M4.base).size + 1 := by rw [hM12]; rfl
  have e13 : Ext M M13 := hM13 ▸ e12.set (by omega) (by omega) _
  have s13 : M13.size = M12.size := by rw [hM13]; rfl
  have hb : M4.size ≤ b11 := by omega
  have hb' : b11 < M13.size := by omega
  clear hM13 hM12 e12 s12 s13 hb11
  refine ⟨ref10_Draft_Cell_l1_m, ceI M d b1 b3 b11, ⟨2, 0, M13, rfl, e13, hb', by omega, by omega, rfl⟩, ?_⟩
  rintro k s ⟨j, M', rfl, eM, hbM, hj, hjm, rfl⟩
  refine ref10_Draft_Cell_l1_wp (I := ceI M d b1 b3 b11) ?_
  have done : (j = 2 ∨ (j : Int) = d.marks % 8) → ref10_Draft_Cell_c0_q b1 (.int .u8 d.rune) (.int .u8 d.marks) (.int .u8 d.attr) (.bool d.wide) (.bool d.high) b3 (.int .i32 0) (.int .i32 0) (.int .i32 0) (.int .u8 0) (.int .u8 0) (.int .u8 0) (.int .u8 0) (.int .u8 0) (.int .u8 0) (.int .u8 0) (.int .u8 0) (.int .u8 0) (.int .u16 0) (.int .u8 0) b11 (Enc.enc (cellK d j)) M' Q := fun hj2 => by
    have hmk : cellF d = { cellK d j with label := if d.high then 1 else 0 } := by
      unfold cellF cellK
      have h1 : (1 ≤ d.marks % 8) ↔ 1 ≤ j := by omega
      have h2 : (2 ≤ d.marks % 8) ↔ 2 ≤ j := by omega
      simp only [h1, h2]
    refine wpIf.mk (fun hh => ?_) (fun hh => ?_)
    · rw [hh] at hmk
      refine ⟨_, rfl, rfl, by exact Nat.lt_of_lt_of_le (by decide) (Nat.le_refl 14), fun M1 hM1 => ?_⟩
      have e1 : Ext M M1 := hM1 ▸ eM.set (by omega) (by omega) _
      have s1 : M1.size = M'.size := by rw [hM1]; rfl
      refine LGetN.as (cellF d).val (by exact Nat.le_refl 14) (by rw [hmk]; rfl) ⟨⟨rfl, rfl, by decide⟩, fun M4' hM4' => LGetN.as (cellF d).val (by exact Nat.le_refl 14) rfl (q _ (hM4' ▸ e1.set (by omega) (by omega) _))⟩
    · rw [hh] at hmk
      refine LGetN.as (cellF d).val (by exact Nat.le_refl 14) (by rw [hmk]; rfl) ⟨⟨rfl, rfl, by decide⟩, fun M4' hM4' => LGetN.as (cellF d).val (by exact Nat.le_refl 14) rfl (q _ (hM4' ▸ eM.set (by omega) (by omega) _))⟩
  refine step_rem8 (by omega) (by omega) (step_conv (IntWalk.i64_in _ (by omega)) (step_lss (wpIf.dec (fun h1 => ?_) (fun h1 => ?_))))
  · rcases (show j = 0 ∨ j = 1 ∨ j = 2 by omega) with rfl | rfl | rfl
    · refine step_lss (wpIf.tt ⟨by decide, _, rfl, rfl, by exact Nat.lt_of_lt_of_le (by decide) (Nat.le_refl 14), fun M6 hM6 => step_add (by omega) (by omega) ⟨1, by omega, 1, M6, rfl, hM6 ▸ eM.set (by omega) (by omega) _, by rw [hM6]; exact hbM, by omega, by omega, rfl⟩⟩)
    · refine step_lss (wpIf.tt ⟨by decide, _, rfl, rfl, by exact Nat.lt_of_lt_of_le (by decide) (Nat.le_refl 14), fun M6 hM6 => step_add (by omega) (by omega) ⟨0, by omega, 2, M6, rfl, hM6 ▸ eM.set (by omega) (by omega) _, by rw [hM6]; exact hbM, by omega, by omega, rfl⟩⟩)
    · exact step_lss (wpIf.ff (blockK.hit (ref10_Draft_Cell_c0_wp (done (.inl rfl)))))
  · exact blockK.hit (ref10_Draft_Cell_c0_wp (done (by omega)))
def labF (D : List Dr) (i : Nat) : Int := match D[i % D.length]? with
  | some d => if d.high then 1 else 0
  | none => 0
def labelsF (n : Nat) (D : List Dr) : List Lv := (List.range n).map fun i => ⟨labF D i⟩
theorem labelsF_succ (n : Nat) (D : List Dr) : labelsF (n + 1) D = labelsF n D ++ [⟨labF D n⟩] := by simp [labelsF, List.range_succ]
abbrev laI (P : Mem) (D : List Dr) (c : Int) (dv : Value) (b1 : Nat) : Nat → LS → Prop := fun k s => ∃ (i : Nat) (M' : Mem) (v : Value), s = ref10_Line_labels_l1_s v (.int .i64 i) b1 (.int .u8 c) dv [] M' ∧ Ext P M' ∧ Mine 51 P M' v (labelsF i D) ∧ i ≤ (c % 31).toNat ∧ k = (c % 31).toNat - i
set_option maxHeartbeats 1000000 in
theorem labels_W (hM : M.base ≤ M.size) {c : Int} (hc : 0 ≤ c ∧ c ≤ 255) {dv : Value} {D : List Dr} (h : SlH M dv D) (q : ∀ M' r, Ext M M' → Mine 51 M M' r (labelsF (c % 31).toNat D) → Q r M') : W funs known (.func (.func n_ref10_Line_labels) #[] #[]) [.agg #[.int .u8 c, dv]] M Q := by
  refine ref10_Line_labels_wp hM ⟨rfl, fun b1 P hb1 hP => ?_⟩
  have eP : Ext M P := Ext.push' hP
  have sP : P.size = M.size + 1 := by rw [hP]; rfl
  have kP := eP.ok hM
  refine ⟨ref10_Line_labels_l1_m, laI P D c dv b1, ⟨(c % 31).toNat, 0, P, .slice none 0 0, rfl, Ext.refl _, .inr ⟨rfl, rfl⟩, Nat.zero_le _, rfl⟩, ?_⟩
  rintro k s ⟨i, M', v, rfl, eM, nM0, hi, rfl⟩
  have nM : Mine 51 P M' v (labelsF i D) := nM0
  refine ref10_Line_labels_l1_wp (I := laI P D c dv b1) ?_
  refine step_rem8 (by omega) (by omega) (step_conv (IntWalk.i64_in _ (by omega)) (step_lss (wpIf.dec (fun h1 => ?_) (fun h1 => ?_))))
  · refine step_lenH h (step_gtr (wpIf.dec (fun h2 => step_lenH h (step_rem64 (by omega) (by omega) ?_)) (fun h2 => ?_)))
    · have hlt : i % D.length < D.length := Nat.mod_lt _ (by omega)
      obtain ⟨d, hd⟩ : ∃ d, D[i % D.length]? = some d := ⟨_, List.getElem?_eq_getElem hlt⟩
      have hmod : ((i : Int) % (D.length : Int)) = ((i % D.length : Nat) : Int) := by omega
      rw [hmod]
      refine rd_f ((h.ext (eP.trans eM)).at hd) (by omega) (by rw [Int.toNat_natCast]; exact hd) (f := 4) rfl fun _ _ => wpIf.mk (fun hh => ?_) (fun hh => ?_)
      · have hl : labF D i = 1 := by unfold labF; rw [hd]; simp [hh]
        refine step_lit [(⟨1⟩ : Lv)] rfl rfl fun v2 M3 e3 n3 => ⟨e3.keep _, ?_⟩
        refine step_appM (eM.trans e3) kP (nM.ext e3) n3.sl.srcs (by simp [labelsF]; omega) (by simp [labelsF]; omega) fun v4 M5 e5 n5 _ => ⟨keepE (by omega) (eM.trans e3) e5, step_add (by omega) (by omega) ⟨(c % 31).toNat - (i + 1), by omega, i + 1, M5, v4, rfl, e5, ?_, by omega, rfl⟩⟩
        rw [labelsF_succ, hl]; exact n5
      · have hl : labF D i = 0 := by unfold labF; rw [hd]; simp [hh]
        refine step_lit [(⟨0⟩ : Lv)] rfl rfl fun v2 M3 e3 n3 => ⟨e3.keep _, ?_⟩
        refine step_appM (eM.trans e3) kP (nM.ext e3) n3.sl.srcs (by simp [labelsF]; omega) (by simp [labelsF]; omega) fun v4 M5 e5 n5 _ => ⟨keepE (by omega) (eM.trans e3) e5, step_add (by omega) (by omega) ⟨(c % 31).toNat - (i + 1), by omega, i + 1, M5, v4, rfl, e5, ?_, by omega, rfl⟩⟩
        rw [labelsF_succ, hl]; exact n5
    · have hl : labF D i = 0 := by unfold labF; rw [List.getElem?_eq_none (by omega)]
      refine step_lit [(⟨0⟩ : Lv)] rfl rfl fun v2 M3 e3 n3 => ⟨e3.keep _, ?_⟩
      refine step_appM (eM.trans e3) kP (nM.ext e3) n3.sl.srcs (by simp [labelsF]; omega) (by simp [labelsF]; omega) fun v4 M5 e5 n5 _ => ⟨keepE (by omega) (eM.trans e3) e5, step_add (by omega) (by omega) ⟨(c % 31).toNat - (i + 1), by omega, i + 1, M5, v4, rfl, e5, ?_, by omega, rfl⟩⟩
      rw [labelsF_succ, hl]; exact n5
  · have : i = (c % 31).toNat := by omega
    subst this
    exact blockK.hit (ref10_Line_labels_c0_wp (q M' v (eP.trans eM) (nM.old eP)))
end
end Go.Proofs.Ytkelbhcaecojkaa.Run
namespace Go.Proofs.Ytkelbhcaecojkaa.Run
open Go Go.RowKit
set_option linter.unusedVariables false
set_option linter.unusedSimpArgs false
def baseF (A : List Lv) : List Ce := A.map fun a => { zeroC with label := a.n }
def pickF (A : List Lv) (D O : List Dr) (i : Nat) : Option Dr := match A[i]? with
  | some a => if a.n = 1 ∧ 0 < O.length then O[i % O.length]? else D[i % D.length]?
  | none => none
def wideF (A : List Lv) (d : Dr) (i n : Nat) : Bool := d.wide && decide (i + 1 < n) && (match A[i + 1]?, A[i]? with
  | some x, some y => decide (x.n = y.n)
  | _, _ => false)
def fillStep (A : List Lv) (D O : List Dr) (r : List Ce) (i : Nat) : List Ce := match A[i]?, pickF A D O i, r[i]? with
  | some a, some d, some c => if d.rune % 5 = 4 ∨ c.kind = 2 then r else putF r i { cellF d with label := a.n } (wideF A d i r.length)
  | _, _, _ => r
def filledF (A : List Lv) (D O : List Dr) : List Ce := if D.length = 0 then baseF A else (List.range A.length).foldl (fillStep A D O) (baseF A)
theorem putF_len (L : List Ce) (x : Int) (c : Ce) (w : Bool) : (putF L x c w).length = L.length := by
  unfold putF
  split
  · rfl
  · rename_i h
    simp only [List.length_append, List.length_take, List.length_drop, brk2_len]
    omega
theorem fillStep_len (A : List Lv) (D O : List Dr) (r : List Ce) (i : Nat) : (fillStep A D O r i).length = r.length := by
  unfold fillStep
  split
  · split
    · rfl
    · rw [putF_len]
  · rfl
theorem fills_len (A : List Lv) (D O : List Dr) (l : List Nat) : ∀ r : List Ce, (l.foldl (fillStep A D O) r).length = r.length := by
  induction l with
  | nil => intro r; rfl
  | cons i l ih => intro r; rw [List.foldl_cons, ih, fillStep_len]
theorem Mine.new {α : Type} [E : Enc α] {ty : TypeId} {M M' : Mem} {v : Value} {L : List α} (h : Mine ty M M' v L) (h0 : L ≠ []) : New ty M M' v L := by
  rcases h with h | ⟨h, _⟩
  · exact h
  · exact absurd h h0
section
variable {M : Mem} {Q : Value → Mem → Prop}
abbrev fiI (M : Mem) (A : List Lv) (av dv ov r : Value) : Nat → LS → Prop := fun k s => ∃ (i : Nat) (M' : Mem), s = ref10_filled_l1_s av dv ov r (.int .i64 i) [] M' ∧ Ext M M' ∧ Mine 53 M M' r (baseF (A.take i) ++ List.replicate (A.length - i) zeroC) ∧ i ≤ A.length ∧ k = A.length - i
abbrev f3I (M : Mem) (A : List Lv) (D O : List Dr) (av dv ov : Value) : Nat → LS → Prop := fun k s => ∃ (i : Nat) (M' : Mem) (r : Value), s = ref10_filled_l3_s av dv ov r (.int .i64 i) [] M' ∧ Ext M M' ∧ Mine 53 M M' r ((List.range i).foldl (fillStep A D O) (baseF A)) ∧ i ≤ A.length ∧ (D.length = 0 → i = 0) ∧ k = A.length - i
set_option maxHeartbeats 2000000 in
theorem filled_W (hM : M.base ≤ M.size) {av dv ov : Value} {A : List Lv} {D O : List Dr} (hA : Sl M av A) (hD : SlH M dv D) (hO : SlH M ov O) (okD : ∀ d ∈ D, d.ok) (okO : ∀ d ∈ O, d.ok) (lA : A.length ≤ 2 ^ 30) (q : ∀ M' r, Ext M M' → Mine 53 M M' r (filledF A D O) → Q r M') :
    W funs known (.func (.func n_ref10_filled) #[] #[]) [av, dv, ov] M Q := by
  refine ref10_filled_wp hM (step_lenS hA ⟨zeroC.val, rfl, refnew_W hM (by omega) fun M4 r4 e4 n4 => ?_⟩)
  rw [Int.toNat_natCast] at n4
  refine ⟨ref10_filled_l1_m, fiI M A av dv ov r4, ⟨A.length, 0, M4, rfl, e4, by simpa [baseF] using n4, Nat.zero_le _, rfl⟩, ?_⟩
  rintro k s ⟨i, M', rfl, eM, nM0, hi, rfl⟩
  have nM : Mine 53 M M' r4 (baseF (A.take i) ++ List.replicate (A.length - i) zeroC) := nM0
  clear nM0
  refine ref10_filled_l1_wp (I := fiI M A av dv ov r4) ?_
  have hlen : (baseF (A.take i) ++ List.replicate (A.length - i) zeroC).length = A.length := by simp [baseF]; omega
  refine step_lenS nM.sl (step_lss (wpIf.dec (fun h1 => ?_) (fun h1 => ?_)))
  · rw [hlen] at h1
    have hlt : i < A.length := by omega
    obtain ⟨a, ha⟩ : ∃ a, A[i]? = some a := ⟨_, List.getElem?_eq_getElem hlt⟩
    have hget : (baseF (A.take i) ++ List.replicate (A.length - i) zeroC)[i]? = some zeroC := by
      have hl : (baseF (A.take i)).length = i := by simp [baseF]; omega
      rw [List.getElem?_append_right (by omega), hl, Nat.sub_self, List.getElem?_replicate, if_pos (by omega)]
    have nN := nM.new (by intro h; rw [h] at hlen; simp at hlen; omega)
    refine rd1 (hA.ext eM) (by omega) (by rw [Int.toNat_natCast]; exact ha) rfl fun _ => ?_
    refine wr_f eM hM nN ({ zeroC with label := a.n } : Ce) hget (f := 13) (by decide) rfl rfl rfl fun u M8 e8 n8 => step_add (by omega) (by omega) ⟨A.length - (i + 1), by omega, i + 1, M8, rfl, e8, .inl ?_, by omega, rfl⟩
    have : (baseF (A.take i) ++ List.replicate (A.length - i) zeroC).set i ({ zeroC with label := a.n } : Ce) = baseF (A.take (i + 1)) ++ List.replicate (A.length - (i + 1)) zeroC := by
      have hl : (baseF (A.take i)).length = i := by simp [baseF]; omega
      rw [List.set_append_right _ _ (by omega), hl, Nat.sub_self, show A.length - i = (A.length - (i + 1)) + 1 by omega, List.replicate_succ, List.set_cons_zero, List.take_add_one, ha]
      simp [baseF]
    rw [← this]; exact n8
  rw [hlen] at h1
  have hiA : i = A.length := by omega
  subst hiA
  rw [List.take_length, Nat.sub_self, List.replicate_zero, List.append_nil] at nM
  refine blockK.hit (ref10_filled_c0_wp ?_)
  refine ⟨ref10_filled_l3_m, f3I M A D O av dv ov, ⟨A.length, 0, M', r4, rfl, eM, nM, Nat.zero_le _, fun _ => rfl, rfl⟩, ?_⟩
  clear nM eM hlen h1 hi e4 n4
  rintro k s ⟨i, M', r, rfl, eM, nM0, hi, hi0, rfl⟩
  have nM : Mine 53 M M' r ((List.range i).foldl (fillStep A D O) (baseF A)) := nM0
  clear nM0
  refine ref10_filled_l3_wp (I := f3I M A D O av dv ov) ?_
  have hlen : ((List.range i).foldl (fillStep A D O) (baseF A)).length = A.length := by rw [fills_len]; simp [baseF]
  have hsucc : (List.range (i + 1)).foldl (fillStep A D O) (baseF A) = fillStep A D O ((List.range i).foldl (fillStep A D O) (baseF A)) i := by rw [List.range_succ, List.foldl_append]; rfl
  have hfin : (¬ i < A.length ∨ ¬ 0 < D.length) → filledF A D O = (List.range i).foldl (fillStep A D O) (baseF A) := by
    intro h
    unfold filledF
    rcases Nat.eq_zero_or_pos D.length with h0 | h0
    · rw [if_pos h0, hi0 h0]; rfl
    · rw [if_neg (by omega), show i = A.length by omega]
  generalize hC : (List.range i).foldl (fillStep A D O) (baseF A) = C at nM hlen hsucc hfin
  refine step_lenS nM.sl (step_lss (wpIf.dec (fun h1 => step_lenH hD (step_gtr (wpIf.dec (fun h2 => step_lenH hD (step_rem64 (by omega) (by omega) ?_)) (fun h2 => ?_)))) (fun h1 => ?_)))
  · have hlt : i < A.length := by omega
    obtain ⟨a, ha⟩ : ∃ a, A[i]? = some a := ⟨_, List.getElem?_eq_getElem hlt⟩
    obtain ⟨c, hc⟩ : ∃ c, C[i]? = some c := ⟨_, List.getElem?_eq_getElem (by omega)⟩
    have hmD : i % D.length < D.length := Nat.mod_lt _ (by omega)
    obtain ⟨d, hd⟩ : ∃ d, D[i % D.length]? = some d := ⟨_, List.getElem?_eq_getElem hmD⟩
    have okd : d.ok := okD d (List.mem_of_getElem? hd)
    rw [show ((i : Int) % (D.length : Int)) = ((i % D.length : Nat) : Int) by omega]
    have again : ∀ M'' r', Ext M M'' → Mine 53 M M'' r' (fillStep A D O C i) → ∃ j, j < A.length - i ∧ f3I M A D O av dv ov j (ref10_filled_l3_s av dv ov r' (.int .i64 ((i : Int) + 1)) [] M'') :=
      fun M'' r' e n => ⟨A.length - (i + 1), by omega, i + 1, M'', r', rfl, e, by rw [hsucc]; exact n, by omega, fun h => by omega, rfl⟩
    have again : ∀ M'' r', Ext M M'' → ∀ {L'}, Mine 53 M M'' r' L' → fillStep A D O C i = L' → ∃ j, j < A.length - i ∧ f3I M A D O av dv ov j (ref10_filled_l3_s av dv ov r' (.int .i64 ((i : Int) + 1)) [] M'') :=
      fun M'' r' e L' n h => again M'' r' e (h ▸ n)
    refine rd ((hD.ext eM).at hd) (by omega) (by rw [Int.toNat_natCast]; exact hd) fun _ => ⟨rfl, fun b9 M10 hb9 hM10 => ⟨⟨rfl, rfl, by decide⟩, fun M11 hM11 => ?_⟩⟩
    have e10 : Ext M' M10 := Ext.push' hM10
    have s10 : M10.size = M'.size + 1 := by rw [hM10]; rfl
    have e11 : Ext M' M11 := hM11 ▸ e10.set (by omega) (by omega) _
    have s11 : M11.size = M10.size := by rw [hM11]; rfl
    have e011 := eM.trans e11
    refine rd1 (hA.ext e011) (by omega) (by rw [Int.toNat_natCast]; exact ha) rfl fun _ => step_eql (wpIf.dec (fun h3 => ?_) (fun h3 => ?_))
    · refine step_lenH hO (step_gtr (wpIf.dec (fun h4 => step_lenH hO (step_rem64 (by omega) (by omega) ?_)) (fun h4 => ?_)))
      · have hmO : i % O.length < O.length := Nat.mod_lt _ (by omega)
        obtain ⟨o, ho⟩ : ∃ o, O[i % O.length]? = some o := ⟨_, List.getElem?_eq_getElem hmO⟩
        have oko : o.ok := okO o (List.mem_of_getElem? ho)
        rw [show ((i : Int) % (O.length : Int)) = ((i % O.length : Nat) : Int) by omega]
        have hst : fillStep A D O C i = if o.rune % 5 = 4 ∨ c.kind = 2 then C else putF C i { cellF o with label := a.n } (wideF A o i C.length) := by
          unfold fillStep pickF
          rw [ha]
          simp only
          rw [if_pos ⟨h3, by omega⟩, ho, hc]
        refine rd ((hO.ext e011).at ho) (by omega) (by rw [Int.toNat_natCast]; exact ho) fun _ => ⟨⟨rfl, rfl, by exact Nat.le_refl 5⟩, fun M21 hM21 => ?_⟩
        have e21 : Ext M' M21 := hM21 ▸ e11.set (by omega) (by omega) _
        have e021 := eM.trans e21
        refine LGet.mk (v := .int .u8 o.rune) rfl (step_rem8 (by omega) (by have := oko.rune; omega) (step_eql (wpIf.dec (fun h5 => ?_) (fun h5 => ?_))))
        · refine step_add (by omega) (by omega) (again M21 r e021 (nM.ext e21) ?_)
          rw [hst, if_pos (.inl h5)]
        refine rd_f (nM.sl.ext e21) (by omega) (by rw [Int.toNat_natCast]; exact hc) (f := 3) rfl fun _ _ => step_eql (wpIf.dec (fun h6 => ?_) (fun h6 => ?_))
        · refine step_add (by omega) (by omega) (again M21 r e021 (nM.ext e21) ?_)
          rw [hst, if_pos (.inr h6)]
        have hnx := hst
        rw [if_neg (by omega)] at hnx
        refine LGetN.as o.val (by exact Nat.le_refl 5) rfl (cell_W (e021.ok hM) oko fun M33 e33 => ⟨e33.keep _, rfl, fun b34 M35 hb34 hM35 => ⟨⟨rfl, rfl, by decide⟩, fun M36 hM36 => ?_⟩⟩)
        have e35 : Ext M21 M35 := e33.trans (Ext.push' hM35)
        have s33 := e33.size
        have s35 : M35.size = M33.size + 1 := by rw [hM35]; rfl
        have e36 : Ext M21 M36 := hM36 ▸ e35.set (by omega) (by omega) _
        have s36 : M36.size = M35.size := by rw [hM36]; rfl
        refine rd1 (hA.ext (e021.trans e36)) (by omega) (by rw [Int.toNat_natCast]; exact ha) rfl fun _ => ⟨_, rfl, rfl, by exact Nat.lt_of_lt_of_le (by decide) (Nat.le_refl 14), fun M39 hM39 => ?_⟩
        have e39 : Ext M21 M39 := hM39 ▸ e36.set (by omega) (by omega) _
        have e0 : Ext M M39 := e021.trans e39
        refine LGetN.as ({ cellF o with label := a.n } : Ce).val (by exact Nat.le_refl 14) rfl (LGet.mk (v := .bool o.wide) rfl (wpIf.mk (fun h7 => ?_) (fun h7 => ?_)))
        · refine step_add (by omega) (by omega) (step_lenS nM.sl (step_lss (wpIf.dec (fun h8 => ?_) (fun h8 => ?_))))
          · obtain ⟨a', ha'⟩ : ∃ a', A[i + 1]? = some a' := ⟨_, List.getElem?_eq_getElem (by omega)⟩
            refine step_add (by omega) (by omega) (rd1 (hA.ext e0) (by omega) (by rw [show ((i : Int) + 1).toNat = i + 1 by omega]; exact ha') rfl fun _ => rd1 (hA.ext e0) (by omega) (by rw [Int.toNat_natCast]; exact ha) rfl fun _ => step_eql ?_)
            refine refput_W (e0.ok hM) ((nM.sl.ext e21).ext e39) (by omega) (by omega) fun M53 r' e53 n53 => ⟨e53.keep _, step_add (by omega) (by omega) (again M53 r' (e0.trans e53) (.inl (n53.old e0)) ?_)⟩
            rw [hnx]
            congr 1
            unfold wideF
            rw [h7, ha', ha, Bool.true_and, decide_eq_true (by omega), Bool.true_and]
          · refine refput_W (e0.ok hM) ((nM.sl.ext e21).ext e39) (by omega) (by omega) fun M53 r' e53 n53 => ⟨e53.keep _, step_add (by omega) (by omega) (again M53 r' (e0.trans e53) (.inl (n53.old e0)) ?_)⟩
            rw [hnx]
            congr 1
            unfold wideF
            rw [decide_eq_false (by omega), Bool.and_false, Bool.false_and]
        · refine refput_W (e0.ok hM) ((nM.sl.ext e21).ext e39) (by omega) (by omega) fun M53 r' e53 n53 => ⟨e53.keep _, step_add (by omega) (by omega) (again M53 r' (e0.trans e53) (.inl (n53.old e0)) ?_)⟩
          rw [hnx]
          congr 1
          unfold wideF
          rw [h7, Bool.false_and, Bool.false_and]
      · have hst : fillStep A D O C i = if d.rune % 5 = 4 ∨ c.kind = 2 then C else putF C i { cellF d with label := a.n } (wideF A d i C.length) := by
          unfold fillStep pickF
          rw [ha]
          simp only
          rw [if_neg (by omega), hd, hc]
        refine LGet.mk (v := .int .u8 d.rune) rfl (step_rem8 (by omega) (by have := okd.rune; omega) (step_eql (wpIf.dec (fun h5 => ?_) (fun h5 => ?_))))
        · refine step_add (by omega) (by omega) (again M11 r e011 (nM.ext e11) ?_)
          rw [hst, if_pos (.inl h5)]
        refine rd_f (nM.sl.ext e11) (by omega) (by rw [Int.toNat_natCast]; exact hc) (f := 3) rfl fun _ _ => step_eql (wpIf.dec (fun h6 => ?_) (fun h6 => ?_))
        · refine step_add (by omega) (by omega) (again M11 r e011 (nM.ext e11) ?_)
          rw [hst, if_pos (.inr h6)]
        have hnx := hst
        rw [if_neg (by omega)] at hnx
        refine LGetN.as d.val (by exact Nat.le_refl 5) rfl (cell_W (e011.ok hM) okd fun M33 e33 => ⟨e33.keep _, rfl, fun b34 M35 hb34 hM35 => ⟨⟨rfl, rfl, by decide⟩, fun M36 hM36 => ?_⟩⟩)
        have e35 : Ext M11 M35 := e33.trans (Ext.push' hM35)
        have s33 := e33.size
        have s35 : M35.size = M33.size + 1 := by rw [hM35]; rfl
        have e36 : Ext M11 M36 := hM36 ▸ e35.set (by omega) (by omega) _
        have s36 : M36.size = M35.size := by rw [hM36]; rfl
        refine rd1 (hA.ext (e011.trans e36)) (by omega) (by rw [Int.toNat_natCast]; exact ha) rfl fun _ => ⟨_, rfl, rfl, by exact Nat.lt_of_lt_of_le (by decide) (Nat.le_refl 14), fun M39 hM39 => ?_⟩
        have e39 : Ext M11 M39 := hM39 ▸ e36.set (by omega) (by omega) _
        have e0 : Ext M M39 := e011.trans e39
        refine LGetN.as ({ cellF d with label := a.n } : Ce).val (by exact Nat.le_refl 14) rfl (LGet.mk (v := .bool d.wide) rfl (wpIf.mk (fun h7 => ?_) (fun h7 => ?_)))
        · refine step_add (by omega) (by omega) (step_lenS nM.sl (step_lss (wpIf.dec (fun h8 => ?_) (fun h8 => ?_))))
          · obtain ⟨a', ha'⟩ : ∃ a', A[i + 1]? = some a' := ⟨_, List.getElem?_eq_getElem (by omega)⟩
            refine step_add (by omega) (by omega) (rd1 (hA.ext e0) (by omega) (by rw [show ((i : Int) + 1).toNat = i + 1 by omega]; exact ha') rfl fun _ => rd1 (hA.ext e0) (by omega) (by rw [Int.toNat_natCast]; exact ha) rfl fun _ => step_eql ?_)
            refine refput_W (e0.ok hM) ((nM.sl.ext e11).ext e39) (by omega) (by omega) fun M53 r' e53 n53 => ⟨e53.keep _, step_add (by omega) (by omega) (again M53 r' (e0.trans e53) (.inl (n53.old e0)) ?_)⟩
            rw [hnx]
            congr 1
            unfold wideF
            rw [h7, ha', ha, Bool.true_and, decide_eq_true (by omega), Bool.true_and]
          · refine refput_W (e0.ok hM) ((nM.sl.ext e11).ext e39) (by omega) (by omega) fun M53 r' e53 n53 => ⟨e53.keep _, step_add (by omega) (by omega) (again M53 r' (e0.trans e53) (.inl (n53.old e0)) ?_)⟩
            rw [hnx]
            congr 1
            unfold wideF
            rw [decide_eq_false (by omega), Bool.and_false, Bool.false_and]
        · refine refput_W (e0.ok hM) ((nM.sl.ext e11).ext e39) (by omega) (by omega) fun M53 r' e53 n53 => ⟨e53.keep _, step_add (by omega) (by omega) (again M53 r' (e0.trans e53) (.inl (n53.old e0)) ?_)⟩
          rw [hnx]
          congr 1
          unfold wideF
          rw [h7, Bool.false_and, Bool.false_and]
    · have hst : fillStep A D O C i = if d.rune % 5 = 4 ∨ c.kind = 2 then C else putF C i { cellF d with label := a.n } (wideF A d i C.length) := by
        unfold fillStep pickF
        rw [ha]
        simp only
        rw [if_neg (fun h => h3 h.1), hd, hc]
      refine LGet.mk (v := .int .u8 d.rune) rfl (step_rem8 (by omega) (by have := okd.rune; omega) (step_eql (wpIf.dec (fun h5 => ?_) (fun h5 => ?_))))
      · refine step_add (by omega) (by omega) (again M11 r e011 (nM.ext e11) ?_)
        rw [hst, if_pos (.inl h5)]
      refine rd_f (nM.sl.ext e11) (by omega) (by rw [Int.toNat_natCast]; exact hc) (f := 3) rfl fun _ _ => step_eql (wpIf.dec (fun h6 => ?_) (fun h6 => ?_))
      · refine step_add (by omega) (by omega) (again M11 r e011 (nM.ext e11) ?_)
        rw [hst, if_pos (.inr h6)]
      have hnx := hst
      rw [if_neg (by omega)] at hnx
      refine LGetN.as d.val (by exact Nat.le_refl 5) rfl (cell_W (e011.ok hM) okd fun M33 e33 => ⟨e33.keep _, rfl, fun b34 M35 hb34 hM35 => ⟨⟨rfl, rfl, by decide⟩, fun M36 hM36 => ?_⟩⟩)
      have e35 : Ext M11 M35 := e33.trans (Ext.push' hM35)
      have s33 := e33.size
      have s35 : M35.size = M33.size + 1 := by rw [hM35]; rfl
      have e36 : Ext M11 M36 := hM36 ▸ e35.set (by omega) (by omega) _
      have s36 : M36.size = M35.size := by rw [hM36]; rfl
      refine rd1 (hA.ext (e011.trans e36)) (by omega) (by rw [Int.toNat_natCast]; exact ha) rfl fun _ => ⟨_, rfl, rfl, by exact Nat.lt_of_lt_of_le (by decide) (Nat.le_refl 14), fun M39 hM39 => ?_⟩
      have e39 : Ext M11 M39 := hM39 ▸ e36.set (by omega) (by omega) _
      have e0 : Ext M M39 := e011.trans e39
      refine LGetN.as ({ cellF d with label := a.n } : Ce).val (by exact Nat.le_refl 14) rfl (LGet.mk (v := .bool d.wide) rfl (wpIf.mk (fun h7 => ?_) (fun h7 => ?_)))
      · refine step_add (by omega) (by omega) (step_lenS nM.sl (step_lss (wpIf.dec (fun h8 => ?_) (fun h8 => ?_))))
        · obtain ⟨a', ha'⟩ : ∃ a', A[i + 1]? = some a' := ⟨_, List.getElem?_eq_getElem (by omega)⟩
          refine step_add (by omega) (by omega) (rd1 (hA.ext e0) (by omega) (by rw [show ((i : Int) + 1).toNat = i + 1 by omega]; exact ha') rfl fun _ => rd1 (hA.ext e0) (by omega) (by rw [Int.toNat_natCast]; exact ha) rfl fun _ => step_eql ?_)
          refine refput_W (e0.ok hM) ((nM.sl.ext e11).ext e39) (by omega) (by omega) fun M53 r' e53 n53 => ⟨e53.keep _, step_add (by omega) (by omega) (again M53 r' (e0.trans e53) (.inl (n53.old e0)) ?_)⟩
          rw [hnx]
          congr 1
          unfold wideF
          rw [h7, ha', ha, Bool.true_and, decide_eq_true (by omega), Bool.true_and]
        · refine refput_W (e0.ok hM) ((nM.sl.ext e11).ext e39) (by omega) (by omega) fun M53 r' e53 n53 => ⟨e53.keep _, step_add (by omega) (by omega) (again M53 r' (e0.trans e53) (.inl (n53.old e0)) ?_)⟩
          rw [hnx]
          congr 1
          unfold wideF
          rw [decide_eq_false (by omega), Bool.and_false, Bool.false_and]
      · refine refput_W (e0.ok hM) ((nM.sl.ext e11).ext e39) (by omega) (by omega) fun M53 r' e53 n53 => ⟨e53.keep _, step_add (by omega) (by omega) (again M53 r' (e0.trans e53) (.inl (n53.old e0)) ?_)⟩
        rw [hnx]
        congr 1
        unfold wideF
        rw [h7, Bool.false_and, Bool.false_and]
  · exact blockK.hit (ref10_filled_c2_wp (q M' r eM (by rw [hfin (.inr (by omega))]; exact nM)))
  · exact blockK.hit (ref10_filled_c2_wp (q M' r eM (by rw [hfin (.inl (by omega))]; exact nM)))
theorem labelsF_len (n : Nat) (D : List Dr) : (labelsF n D).length = n := by simp [labelsF]
theorem filledF_len (A : List Lv) (D O : List Dr) : (filledF A D O).length = A.length := by
  unfold filledF
  split
  · simp [baseF]
  · rw [fills_len]; simp [baseF]
def rowF (c : Int) (D O : List Dr) : List Ce := filledF (labelsF (c % 31).toNat D) D O
theorem rowF_len (c : Int) (D O : List Dr) : (rowF c D O).length = (c % 31).toNat := by unfold rowF; rw [filledF_len, labelsF_len]
theorem row_W (hM : M.base ≤ M.size) {c : Int} (hc : 0 ≤ c ∧ c ≤ 255) {dv : Value} {D : List Dr} (hD : SlH M dv D) (okD : ∀ d ∈ D, d.ok) (q : ∀ M' r, Ext M M' → Mine 53 M M' r (rowF c D []) → Q r M') : W funs known (.func (.func n_ref10_Line_Row) #[] #[]) [.agg #[.int .u8 c, dv]] M Q := by
  refine ref10_Line_Row_wp hM ⟨rfl, fun b1 M2 hb1 hM2 => ?_⟩
  have e2 : Ext M M2 := Ext.push' hM2
  refine labels_W (freeze_ok M2) hc (hD.ext e2).freeze fun M4 r3 e4 n4 => ⟨e4.keepF _, ?_⟩
  have e24 := Ext.thaw e4
  have e04 := e2.trans e24
  refine filled_W (e04.ok hM) (n4.sl.thaw (c := M2.base)) (hD.ext e04) (.inl (Sl.nil _)) okD (by simp) (by rw [labelsF_len]; omega) fun M6 r5 e6 n6 => ⟨e6.keep _, q M6 r5 (e04.trans e6) (n6.old e04)⟩
end
end Go.Proofs.Ytkelbhcaecojkaa.Run
