/- What the functions of the document's answer to chapter 10 do, by which rows are drawn. -/
import Derived.Test.YtifemfnjoobiiaaRowE
namespace Go.Proofs.Ytifemfnjoobiiaa.Run
open Go Go.RowKit
set_option linter.unusedVariables false
set_option linter.unusedSimpArgs false
structure Dr where
 rune : Int
 marks : Int
 attr : Int
 wide : Bool
 high : Bool
instance : Enc Dr := ⟨5, fun d => [.int .u8 d.rune, .int .u8 d.marks, .int .u8 d.attr, .bool d.wide, .bool d.high], fun _ => rfl, by decide⟩
abbrev Dr.val (d : Dr) : Value := .agg (Enc.enc d).toArray
structure Dr.ok (d : Dr) : Prop where
 rune : 0 ≤ d.rune ∧ d.rune ≤ 255
 marks : 0 ≤ d.marks ∧ d.marks ≤ 255
 attr : 0 ≤ d.attr ∧ d.attr ≤ 255
def attrF (n : Int) : At9 := ⟨n % 3, n % 5, 0, 0, n / 3 % 2, n % 2, 0, 0, n % 4⟩
def cellK (d : Dr) (j : Nat) : Ce := ⟨97 + d.rune % 26, if 1 ≤ j then 769 else 0, if 2 ≤ j then 769 else 0, 0, attrF d.attr, 0⟩
def cellF (d : Dr) : Ce := ⟨97 + d.rune % 26, if 1 ≤ d.marks % 8 then 769 else 0, if 2 ≤ d.marks % 8 then 769 else 0, 0, attrF d.attr, if d.high then 1 else 0⟩
section
variable {M : Mem} {Q : Value → Mem → Prop}
theorem refwithin_W (hM : M.base ≤ M.size) {x a b : Int} (q : Q (.int .i64 (max a (min x b))) M) : W funs known (.func (.func n_ref10_within) #[] #[]) [.int .i64 x, .int .i64 a, .int .i64 b] M Q :=
 ref10_within_wp hM (step_min (step_max q))
theorem refbare_W (hM : M.base ≤ M.size) {c : Ce} (q : ∀ M', Ext M M' → Q c.bare.val M') : W funs known (.func (.func n_ref10_bare) #[] #[]) [c.val] M Q := by
 refine ref10_bare_wp hM ⟨rfl, fun b1 M2 hb1 hM2 => ⟨rfl, fun b3 M4 hb3 hM4 => ?_⟩⟩
 have e4 : Ext M M4 := (Ext.push' hM2).trans (Ext.push' hM4)
 have s2 : M2.size = M.size + 1 := by rw [hM2]; rfl
 have s4 : M4.size = M2.size + 1 := by rw [hM4]; rfl
 exact ⟨c.bare.val, rfl, ⟨rfl, rfl, by decide⟩, fun M5 hM5 => LGetN.as c.bare.val (by exact Nat.le_refl 14) rfl (q _ (hM5 ▸ e4.set (by omega) (by omega) _))⟩
theorem refown_W (hM : M.base ≤ M.size) {v : Value} {L : List Ce} (h : Sl M v L) (hL : L.length ≤ 2 ^ 30) (q : ∀ M' r, Ext M M' → New 42 M M' r L → Q r M') : W funs known (.func (.func n_ref10_own) #[] #[]) [v] M Q := by
 obtain ⟨ad, cap, rfl⟩ := h.shape
 refine ref10_own_wp hM (step_lit ([] : List Ce) rfl rfl fun v1 M2 e2 n2 => ?_)
 exact step_app e2 hM n2 (h.ext e2).srcs (by simp; omega) (by simp; omega) fun v3 M4 e4 n4 _ => q M4 v3 e4 n4
theorem refbreak_W (hM : M.base ≤ M.size) {v : Value} {L : List Ce} (h : Sl M v L) (hL : L.length ≤ 2 ^ 30) {x : Int} (q : ∀ M' r, Ext M M' → New 42 M M' r (breakF L x) → Q r M') : W funs known (.func (.func n_ref10_Break) #[] #[]) [v, .int .i64 x] M Q := by
 obtain ⟨ad, cap, rfl⟩ := h.shape
 refine ref10_Break_wp hM (refown_W hM h hL fun M2 r e2 n2 => step_len (refwithin_W (e2.ok hM) ?_))
 rw [← clampN_eq]
 rw [breakF_clamp] at q
 have hj := clampN_le x L.length
 generalize clampN x L.length = j at q hj ⊢
 have stay : ¬ cutF L j → Q r M2 := fun hc => by rw [if_neg hc] at q; exact q M2 r e2 n2
 have hS := h.ext e2
 refine step_gtr (wpIf.dec (fun c1 => step_len (step_lss (wpIf.dec (fun c2 => step_sub (by omega) (by omega) ?_) (fun c2 => ?_)))) (fun c1 => ?_))
 ·obtain ⟨a, ha⟩ : ∃ a, L[j - 1]? = some a := ⟨_, List.getElem?_eq_getElem (by omega)⟩
  obtain ⟨c, hc⟩ : ∃ c, L[j]? = some c := ⟨_, List.getElem?_eq_getElem (by omega)⟩
  have hj1 : ((j : Int) - 1).toNat = j - 1 := by omega
  have hj2 : (j : Int) - 1 = ((j - 1 : Nat) : Int) := by omega
  refine rd_f hS (by omega) (by rw [hj1]; exact ha) (f := 3) rfl fun _ _ => step_eql (wpIf.dec (fun d1 => ?_) (fun d1 => ?_))
  ·refine rd_f hS (by omega) (by rw [Int.toNat_natCast]; exact hc) (f := 3) rfl fun _ _ => step_eql (wpIf.dec (fun d2 => ?_) (fun d2 => ?_))
   ·refine step_sub (by omega) (by omega) (step_sub (by omega) (by omega) ?_)
    rw [if_pos (cutF_iff.2 ⟨a, c, by omega, ha, hc, d1, d2⟩)] at q
    refine rd hS (by omega) (by rw [hj1]; exact ha) fun _ => refbare_W (e2.ok hM) fun M23 e23 => ?_
    rw [hj2]
    have e223 := e2.trans e23
    refine wr e223 hM (n2.ext e23) a.bare ha rfl fun u M26 e26 n26 => ?_
    have hc' : (L.set (j - 1) a.bare)[j]? = some c := by rw [List.getElem?_set_ne (by omega)]; exact hc
    refine rd (h.ext e26) (by omega) (by rw [Int.toNat_natCast]; exact hc) fun _ => refbare_W (e26.ok hM) fun M30 e30 => ?_
    refine wr (e26.trans e30) hM (n26.ext e30) c.bare hc' rfl fun u M33 e33 n33 => q M33 r e33 ?_
    rw [bareAt_some ha, bareAt_some hc']
    exact n33
   ·refine stay fun hcut => ?_
    obtain ⟨u, w, _, hu, hw, k1, k2⟩ := cutF_iff.1 hcut
    rw [hc] at hw; cases hw; exact d2 k2
  ·refine stay fun hcut => ?_
   obtain ⟨u, w, _, hu, hw, k1, k2⟩ := cutF_iff.1 hcut
   rw [ha] at hu; cases hu; exact d1 k1
 ·refine stay fun hcut => ?_
  obtain ⟨u, w, _, hu, hw, k1, k2⟩ := cutF_iff.1 hcut
  have := (List.getElem?_eq_some_iff.1 hw).1
  omega
 ·refine stay fun hcut => ?_
  obtain ⟨u, w, h0, hu, hw, k1, k2⟩ := cutF_iff.1 hcut
  omega
def numC (wide : Bool) : Nat := if wide then 2 else 1
theorem putC_len (c : Ce) (wide : Bool) : (putC c wide).length = numC wide := by unfold putC numC; split <;> rfl
theorem set_put1 {B : List Ce} {i : Nat} (h : i + 1 ≤ B.length) (a : Ce) : B.set i a = B.take i ++ [a] ++ B.drop (i + 1) := by
 rw [List.set_eq_take_append_cons_drop, if_pos (by omega), List.append_assoc]; rfl
theorem set_put2 {B : List Ce} {i : Nat} (h : i + 2 ≤ B.length) (a c : Ce) : (B.set (i + 1) c).set i a = B.take i ++ [a, c] ++ B.drop (i + 2) := by
 apply List.ext_getElem?
 intro k
 simp only [List.getElem?_set, List.length_set, List.getElem?_append, List.length_append, List.length_take, List.length_cons, List.length_nil, List.getElem?_take, List.getElem?_drop]
 by_cases h1 : k < i
 ·rw [if_neg (by omega), if_neg (by omega), if_pos (by omega), if_pos (by omega), if_pos h1]
 ·by_cases h2 : k = i
  ·subst h2
   rw [if_pos rfl, if_pos (by omega), if_pos (by omega), if_neg (by omega), show k - min k B.length = 0 by omega]; rfl
  ·by_cases h3 : k = i + 1
   ·subst h3
    rw [if_neg (by omega), if_pos rfl, if_pos (by omega), if_pos (by omega), if_neg (by omega), show i + 1 - min i B.length = 1 by omega]; rfl
   ·rw [if_neg (by omega), if_neg (by omega), if_neg (by omega)]
    congr 1; omega
set_option maxHeartbeats 1000000 in
theorem refput_W (hM : M.base ≤ M.size) {v : Value} {L : List Ce} (h : Sl M v L) (hL : L.length ≤ 2 ^ 30) {x : Int} (hx : -(2 ^ 40) ≤ x ∧ x ≤ 2 ^ 40) {c : Ce} {wide : Bool} (q : ∀ M' r, Ext M M' → New 42 M M' r (putF L x c wide) → Q r M') : W funs known (.func (.func n_ref10_Put) #[] #[]) [v, .int .i64 x, c.val, .bool wide] M Q := by
 obtain ⟨ad, cap, rfl⟩ := h.shape
 refine ref10_Put_wp hM ⟨rfl, fun b1 M2 hb1 hM2 => ?_⟩
 have e2 : Ext M M2 := Ext.push' hM2
 have s2 : M2.size = M.size + 1 := by rw [hM2]; rfl
 have k2 := e2.ok hM
 refine wpIf.mk (fun hw => ?_) (fun hw => ?_)
 ·subst hw
  have main : putF L x c true = if x < 0 ∨ x + (2 : Nat) > L.length then L else (brk2 L x (x + (2 : Nat))).take x.toNat ++ putC c true ++ (brk2 L x (x + (2 : Nat))).drop (x + (2 : Nat)).toNat := by unfold putF; rw [putC_len]; rfl
  rw [main] at q
  refine ref10_Put_c0_wp ?_
  refine step_lss (wpIf.dec (fun h1 => ?_) (fun h1 => step_add (by omega) (by omega) (step_len (step_gtr (wpIf.dec (fun h2 => ?_) (fun h2 => ?_))))))
  ·rw [if_pos (.inl h1)] at q
   exact refown_W k2 (h.ext e2) hL fun M' r e' n' => ⟨e'.keep _, q M' r (e2.trans e') (n'.old e2)⟩
  ·rw [if_pos (.inr h2)] at q
   exact refown_W k2 (h.ext e2) hL fun M' r e' n' => ⟨e'.keep _, q M' r (e2.trans e') (n'.old e2)⟩
  rw [if_neg (by omega)] at q
  obtain ⟨i, rfl⟩ : ∃ i : Nat, x = (i : Int) := ⟨x.toNat, by omega⟩
  refine ref10_Put_c1_wp ?_
  refine refbreak_W k2 (h.ext e2) hL fun M3 r1 e3 n3 => ⟨e3.keep _, step_add (by omega) (by omega) ?_⟩
  have k3 := e3.ok k2
  refine refbreak_W k3 n3.sl (by rw [breakF_len]; exact hL) fun M5 r4 e5 n5 => ⟨e5.keep _, ?_⟩
  have n5 : New 42 M3 M5 r4 (brk2 L i (i + (2 : Nat))) := n5
  have hB := brk2_len L i (i + (2 : Nat))
  generalize brk2 L i (i + (2 : Nat)) = B at q n5 hB
  rw [Int.toNat_natCast, show ((i : Int) + (2 : Nat)).toNat = i + 2 by omega] at q
  have n25 : New 42 M2 M5 r4 B := n5.old e3
  have e25 := e3.trans e5
  refine ⟨_, rfl, rfl, by decide, fun M6 hM6 => ?_⟩
  have e26 : Ext _ M6 := hM6 ▸ e25.both (b := b1) (by omega) (.cells (Enc.enc ({ c with kind := 0 } : Ce)) 42 true)
  have n26 : New 42 _ M6 r4 B := hM6 ▸ n25.both (b := b1) (by omega) (.cells (Enc.enc ({ c with kind := 0 } : Ce)) 42 true)
  have eMP : Ext M (M2.set b1 (.cells (Enc.enc ({ c with kind := 0 } : Ce)) 42 true)) := e2.set (by omega) (by omega) _
  generalize hP : M2.set b1 (.cells (Enc.enc ({ c with kind := 0 } : Ce)) 42 true) = P at e26 n26 eMP
  have sP : P.size = M2.size := by rw [← hP]; rfl
  have kP := eMP.ok hM
  refine wpIf.tt ⟨_, rfl, rfl, by decide, fun M8 hM8 => ?_⟩
  have e28 : Ext _ M8 := hM8 ▸ e26.both (b := b1) (by omega) (.cells (Enc.enc ({ c with kind := 1 } : Ce)) 42 true)
  have n28 : New 42 _ M8 r4 B := hM8 ▸ n26.both (b := b1) (by omega) (.cells (Enc.enc ({ c with kind := 1 } : Ce)) 42 true)
  have eMR : Ext M (P.set b1 (.cells (Enc.enc ({ c with kind := 1 } : Ce)) 42 true)) := eMP.set (by omega) (by omega) _
  generalize hR : P.set b1 (.cells (Enc.enc ({ c with kind := 1 } : Ce)) 42 true) = R at e28 n28 eMR
  have sR : R.size = P.size := by rw [← hR]; rfl
  have kR := eMR.ok hM
  obtain ⟨y, hy⟩ : ∃ y, B[i]? = some y := ⟨_, List.getElem?_eq_getElem (by omega)⟩
  obtain ⟨z, hz⟩ : ∃ z, B[i + 1]? = some z := ⟨_, List.getElem?_eq_getElem (by omega)⟩
  refine step_add (by omega) (by omega) ⟨c.half.val, rfl, ?_⟩
  rw [show ((i : Int) + 1) = ((i + 1 : Nat) : Int) by omega]
  refine wr e28 kR n28 c.half hz rfl fun u M14 e14 n14 => ⟨keepE (by omega) e28 e14, ?_⟩
  have hy' : (B.set (i + 1) c.half)[i]? = some y := by rw [List.getElem?_set_ne (by omega)]; exact hy
  refine wr e14 kR n14 ({ c with kind := 1 } : Ce) hy' rfl fun u M17 e17 n17 => ⟨keepE (by omega) e14 e17, q M17 r4 (eMR.trans e17) (New.old eMR ?_)⟩
  rw [set_put2 (by omega)] at n17
  exact n17
 ·subst hw
  have main : putF L x c false = if x < 0 ∨ x + (1 : Nat) > L.length then L else (brk2 L x (x + (1 : Nat))).take x.toNat ++ putC c false ++ (brk2 L x (x + (1 : Nat))).drop (x + (1 : Nat)).toNat := by unfold putF; rw [putC_len]; rfl
  rw [main] at q
  refine ref10_Put_c0_wp ?_
  refine step_lss (wpIf.dec (fun h1 => ?_) (fun h1 => step_add (by omega) (by omega) (step_len (step_gtr (wpIf.dec (fun h2 => ?_) (fun h2 => ?_))))))
  ·rw [if_pos (.inl h1)] at q
   exact refown_W k2 (h.ext e2) hL fun M' r e' n' => ⟨e'.keep _, q M' r (e2.trans e') (n'.old e2)⟩
  ·rw [if_pos (.inr h2)] at q
   exact refown_W k2 (h.ext e2) hL fun M' r e' n' => ⟨e'.keep _, q M' r (e2.trans e') (n'.old e2)⟩
  rw [if_neg (by omega)] at q
  obtain ⟨i, rfl⟩ : ∃ i : Nat, x = (i : Int) := ⟨x.toNat, by omega⟩
  refine ref10_Put_c1_wp ?_
  refine refbreak_W k2 (h.ext e2) hL fun M3 r1 e3 n3 => ⟨e3.keep _, step_add (by omega) (by omega) ?_⟩
  have k3 := e3.ok k2
  refine refbreak_W k3 n3.sl (by rw [breakF_len]; exact hL) fun M5 r4 e5 n5 => ⟨e5.keep _, ?_⟩
  have n5 : New 42 M3 M5 r4 (brk2 L i (i + (1 : Nat))) := n5
  have hB := brk2_len L i (i + (1 : Nat))
  generalize brk2 L i (i + (1 : Nat)) = B at q n5 hB
  rw [Int.toNat_natCast, show ((i : Int) + (1 : Nat)).toNat = i + 1 by omega] at q
  have n25 : New 42 M2 M5 r4 B := n5.old e3
  have e25 := e3.trans e5
  refine ⟨_, rfl, rfl, by decide, fun M6 hM6 => ?_⟩
  have e26 : Ext _ M6 := hM6 ▸ e25.both (b := b1) (by omega) (.cells (Enc.enc ({ c with kind := 0 } : Ce)) 42 true)
  have n26 : New 42 _ M6 r4 B := hM6 ▸ n25.both (b := b1) (by omega) (.cells (Enc.enc ({ c with kind := 0 } : Ce)) 42 true)
  have eMP : Ext M (M2.set b1 (.cells (Enc.enc ({ c with kind := 0 } : Ce)) 42 true)) := e2.set (by omega) (by omega) _
  generalize hP : M2.set b1 (.cells (Enc.enc ({ c with kind := 0 } : Ce)) 42 true) = P at e26 n26 eMP
  have sP : P.size = M2.size := by rw [← hP]; rfl
  have kP := eMP.ok hM
  refine wpIf.ff ?_
  obtain ⟨y, hy⟩ : ∃ y, B[i]? = some y := ⟨_, List.getElem?_eq_getElem (by omega)⟩
  refine wr e26 kP n26 ({ c with kind := 0 } : Ce) hy rfl fun u M17 e17 n17 => ⟨keepE (by omega) e26 e17, q M17 r4 (eMP.trans e17) (New.old eMP ?_)⟩
  rw [set_put1 (by omega)] at n17
  exact n17
end
end Go.Proofs.Ytifemfnjoobiiaa.Run
