/- What Mark of chapter 10 does. -/
import Derived.Test.YtifemfnjoobiiaaRowD
namespace Go.Proofs.Ytifemfnjoobiiaa.Run
open Go Go.RowKit
set_option linter.unusedVariables false
set_option linter.unusedSimpArgs false
def Ce.mark (c : Ce) (m : Int) : Ce := if c.m1 = 0 then { c with m1 := m } else if c.m2 = 0 then { c with m2 := m } else c
def Ce.marked (c : Ce) (m l : Int) : Ce := (c.mark m).raise l
def markAt (L : List Ce) (i : Nat) (m l : Int) : List Ce :=
 match L[i]? with
 | none => L
 | some c => if c.rune = 0 then L else
  if c.kind = 1 then (match L[i + 1]? with
   | some d => (L.set i (c.marked m l)).set (i + 1) (d.raise l)
   | none => L.set i (c.marked m l)) else L.set i (c.marked m l)
def markF (L : List Ce) (x m l : Int) : List Ce :=
 if x < 0 ∨ x ≥ L.length then L else
 match L[x.toNat]? with
 | none => L
 | some c => if c.kind = 2 ∧ x > 0 then markAt L (x.toNat - 1) m l else markAt L x.toNat m l
theorem Ce.mark_kind (c : Ce) (m : Int) : (c.mark m).kind = c.kind ∧ (c.mark m).label = c.label ∧ (c.mark m).rune = c.rune ∧ (c.mark m).attr = c.attr := by
 unfold Ce.mark; split
 ·simp
 ·split <;> simp
section
variable {M : Mem} {Q : Value → Mem → Prop}
abbrev maI (M₀ : Mem) (L : List Ce) (c : Ce) (v p : Value) (i : Nat) (m l : Int) : Nat → LS → Prop := fun k s => ∃ (j : Nat) (M' : Mem), s = row_Mark_l3_s v (.int .i64 i) (.int .i32 m) (.int .u8 l) p (.int .i64 j) [] M' ∧ Ext M₀ M' ∧ New 42 M₀ M' v L ∧ j ≤ 2 ∧ (j ≥ 1 → c.m1 ≠ 0) ∧ (j ≥ 2 → c.m2 ≠ 0) ∧ k = 2 - j
set_option maxHeartbeats 2000000 in
theorem mark_W (hM : M.base ≤ M.size) {v : Value} {L : List Ce} (h : Sl M v L) (hL : L.length ≤ 2 ^ 30) {x m l : Int} (q : ∀ M' r, Ext M M' → New 42 M M' r (markF L x m l) → Q r M') : W funs known (.func (.func n_row_Mark) #[] #[]) [v, .int .i64 x, .int .i32 m, .int .u8 l] M Q := by
 obtain ⟨ad, cap, rfl⟩ := h.shape
 refine row_Mark_wp hM (own_W hM h hL fun M2 r e2 n2 => ?_)
 unfold markF at q
 refine step_lss (wpIf.dec (fun h1 => ?_) (fun h1 => ?_))
 ·rw [if_pos (.inl h1)] at q
  exact q M2 r e2 n2
 refine step_lenS n2.sl (step_geq (wpIf.dec (fun h2 => ?_) (fun h2 => ?_)))
 ·rw [if_pos (.inr h2)] at q
  exact q M2 r e2 n2
 rw [if_neg (by omega)] at q
 obtain ⟨c, hc⟩ : ∃ c, L[x.toNat]? = some c := ⟨_, List.getElem?_eq_getElem (by omega)⟩
 rw [hc] at q
 simp only at q
 obtain ⟨i, rfl⟩ : ∃ i : Nat, x = (i : Int) := ⟨x.toNat, by omega⟩
 rw [Int.toNat_natCast] at q hc
 obtain ⟨b, sp, rfl⟩ := n2.shape
 refine row_Mark_c0_wp ?_
 refine rd_f n2.sl (by omega) (by rw [Int.toNat_natCast]; exact hc) (f := 3) rfl fun _ _ => step_eql (wpIf.dec (fun h3 => ?_) (fun h3 => ?_))
 ·refine step_gtr (wpIf.dec (fun h4 => step_sub (by omega) (by omega) ?_) (fun h4 => ?_))
  ·rw [if_pos ⟨h3, h4⟩] at q
   rw [show (i : Int) - 1 = ((i - 1 : Nat) : Int) by omega]
   obtain ⟨d, hd⟩ : ∃ d, L[i - 1]? = some d := ⟨_, List.getElem?_eq_getElem (by have := (List.getElem?_eq_some_iff.1 hc).1; omega)⟩
   generalize i - 1 = i' at q hd ⊢
   have hlt := (List.getElem?_eq_some_iff.1 hd).1
   have hat : opSem (.addrL 14 (.const (.slice (some ⟨b, 0, sp⟩) L.length L.length)) (.const (.int .i64 ((i' : Nat) : Int)))) [] M2 = some (.pointer (some ⟨b, 0 + i' * 14, none⟩), M2) := by
    simp only [opSem, ev]
    rw [if_pos ⟨by omega, by omega⟩, Int.toNat_natCast]
   refine row_Mark_c1_wp ⟨_, hat, _, rfl, _, rfl, _, n2.load_f (f := 0) hd rfl, step_eql (wpIf.dec (fun h7 => ?_) (fun h7 => ?_))⟩
   ·have : markAt L i' m l = L := by unfold markAt; rw [hd]; exact if_pos h7
    rw [this] at q
    exact q M2 _ e2 n2
   have hm : markAt L i' m l = if (d : Ce).kind = 1 then (match L[i' + 1]? with
     | some y => (L.set i' (d.marked m l)).set (i' + 1) (y.raise l)
     | none => L.set i' (d.marked m l)) else L.set i' (d.marked m l) := by unfold markAt; rw [hd]; simp only; exact if_neg h7
   rw [hm] at q
   have rest : ∀ M3, Ext M M3 → New 42 M M3 (.slice (some ⟨b, 0, sp⟩) L.length L.length) (L.set i' (d.mark m)) → row_Mark_c2_q (.slice (some ⟨b, 0, sp⟩) L.length L.length) (.int .i64 ((i' : Nat) : Int)) (.int .u8 l) (.pointer (some ⟨b, 0 + i' * 14, none⟩)) M3 Q := fun M3 e3 n3 => by
    have hs : (L.set i' (d.mark m))[i']? = some (d.mark m) := by rw [List.getElem?_set, if_pos rfl, if_pos hlt]
    obtain ⟨k1, k2, _, _⟩ := Ce.mark_kind d m
    obtain ⟨v4, M5, h5, e5, s5⟩ := lit2 d.label l M3
    refine ⟨_, rfl, _, rfl, _, n3.load_f (f := 13) hs (by simp [Enc.enc, k2]), v4, M5, h5, join_W ((e3.trans e5).ok hM) s5 (by simp) fun b' hb' => ?_⟩
    rw [join2 hb']
    refine ⟨_, rfl, _, rfl, ?_⟩
    have e35 := e3.trans e5
    refine (n3.ext e5).store' e35 hM (d.marked m l) hs (f := 13) (vs := [.int .u8 (joinF d.label l)]) (Nat.le_of_ble_eq_true rfl) (by simp [splice, Enc.enc, Ce.marked, Ce.raise, k2]) rfl rfl fun u M11 e11 n11 => ?_
    rw [List.set_set] at n11
    have hs2 : (L.set i' (d.marked m l))[i']? = some (d.marked m l) := by rw [List.getElem?_set, if_pos rfl, if_pos hlt]
    refine ⟨_, rfl, _, rfl, _, n11.load_f (f := 3) hs2 (x := .int .u8 d.kind) (by simp [Enc.enc, Ce.marked, Ce.raise, k1]), step_eql (wpIf.dec (fun h8 => ?_) (fun h8 => ?_))⟩
    ·rw [if_pos h8] at q
     refine step_add (by omega) (by omega) (step_len (step_lss (wpIf.dec (fun h9 => ?_) (fun h9 => ?_))))
     ·obtain ⟨y, hy⟩ : ∃ y, L[i' + 1]? = some y := ⟨_, List.getElem?_eq_getElem (by omega)⟩
      rw [hy] at q
      have hy2 : (L.set i' (d.marked m l))[i' + 1]? = some y := by rw [List.getElem?_set_ne (by omega)]; exact hy
      refine step_add (by omega) (by omega) (step_add (by omega) (by omega) ?_)
      rw [show (((i' : Nat) : Int) + 1) = ((i' + 1 : Nat) : Int) by omega]
      obtain ⟨v24, M25, h25, e25, s25⟩ := lit2 y.label l M11
      refine rd_f n11.sl (by omega) (by rw [Int.toNat_natCast]; exact hy2) (f := 13) rfl fun _ _ => ⟨v24, M25, h25, join_W ((e11.trans e25).ok hM) s25 (by simp) fun b'' hb'' => ?_⟩
      rw [join2 hb'']
      exact wr_f (e11.trans e25) hM (n11.ext e25) (y.raise l) hy2 (f := 13) (by decide) rfl rfl rfl fun u' M31 e31 n31 => q M31 _ e31 n31
     ·have hd : L[i' + 1]? = none := List.getElem?_eq_none (by omega)
      rw [hd] at q
      exact q M11 _ e11 n11
    ·rw [if_neg h8] at q
     exact q M11 _ e11 n11
   refine ⟨row_Mark_l3_m, maI M L d (.slice (some ⟨b, 0, sp⟩) L.length L.length) (.pointer (some ⟨b, 0 + i' * 14, none⟩)) i' m l, ⟨2, 0, M2, rfl, e2, n2, by omega, fun h => by omega, fun h => by omega, rfl⟩, ?_⟩
   rintro k s ⟨j, M', rfl, eM, nM, hj, hj1, hj2, rfl⟩
   refine row_Mark_l3_wp (I := maI M L d (.slice (some ⟨b, 0, sp⟩) L.length L.length) (.pointer (some ⟨b, 0 + i' * 14, none⟩)) i' m l) ?_
   have done : ∀ M3, Ext M M3 → New 42 M M3 (.slice (some ⟨b, 0, sp⟩) L.length L.length) L → (d.m1 ≠ 0 ∧ d.m2 ≠ 0) → row_Mark_c2_q (.slice (some ⟨b, 0, sp⟩) L.length L.length) (.int .i64 ((i' : Nat) : Int)) (.int .u8 l) (.pointer (some ⟨b, 0 + i' * 14, none⟩)) M3 Q := fun M3 e3 n3 hm => by
    refine rest M3 e3 ?_
    have : L.set i' (d.mark m) = L := by
     unfold Ce.mark
     rw [if_neg hm.1, if_neg hm.2]
     obtain ⟨_, rfl⟩ := List.getElem?_eq_some_iff.1 hd
     exact List.set_getElem_self _
    rw [this]; exact n3
   rcases (show j = 0 ∨ j = 1 ∨ j = 2 by omega) with rfl | rfl | rfl
   ·refine step_lss (wpIf.tt ⟨_, rfl, _, rfl, _, rfl, _, nM.load_f (f := 1) hd rfl, step_eql (wpIf.dec (fun h9 => ?_) (fun h9 => ?_))⟩)
    ·refine ⟨_, rfl, _, rfl, _, rfl, nM.store' eM hM (d.mark m) hd (f := 1) (vs := [.int .i32 m]) (Nat.le_of_ble_eq_true rfl) (by simp [splice, Enc.enc, Ce.mark, h9]) rfl rfl fun u M3 e3 n3 => blockK.hit (row_Mark_c2_wp (rest M3 e3 n3))⟩
    ·exact step_add (by omega) (by omega) ⟨1, by omega, 1, M', rfl, eM, nM, by omega, fun _ => h9, fun h => by omega, rfl⟩
   ·refine step_lss (wpIf.tt ⟨_, rfl, _, rfl, _, rfl, _, nM.load_f (f := 2) hd rfl, step_eql (wpIf.dec (fun h9 => ?_) (fun h9 => ?_))⟩)
    ·refine ⟨_, rfl, _, rfl, _, rfl, nM.store' eM hM (d.mark m) hd (f := 2) (vs := [.int .i32 m]) (Nat.le_of_ble_eq_true rfl) (by simp [splice, Enc.enc, Ce.mark, h9, hj1 (by omega)]) rfl rfl fun u M3 e3 n3 => blockK.hit (row_Mark_c2_wp (rest M3 e3 n3))⟩
    ·exact step_add (by omega) (by omega) ⟨0, by omega, 2, M', rfl, eM, nM, by omega, fun _ => hj1 (by omega), fun h => h9, rfl⟩
   ·exact step_lss (wpIf.ff (blockK.hit (row_Mark_c2_wp (done M' eM nM ⟨hj1 (by omega), hj2 (by omega)⟩))))
  ·rw [if_neg (by omega)] at q
   have hlt := (List.getElem?_eq_some_iff.1 hc).1
   have hat : opSem (.addrL 14 (.const (.slice (some ⟨b, 0, sp⟩) L.length L.length)) (.const (.int .i64 ((i : Nat) : Int)))) [] M2 = some (.pointer (some ⟨b, 0 + i * 14, none⟩), M2) := by
    simp only [opSem, ev]
    rw [if_pos ⟨by omega, by omega⟩, Int.toNat_natCast]
   refine row_Mark_c1_wp ⟨_, hat, _, rfl, _, rfl, _, n2.load_f (f := 0) hc rfl, step_eql (wpIf.dec (fun h7 => ?_) (fun h7 => ?_))⟩
   ·have : markAt L i m l = L := by unfold markAt; rw [hc]; exact if_pos h7
    rw [this] at q
    exact q M2 _ e2 n2
   have hm : markAt L i m l = if (c : Ce).kind = 1 then (match L[i + 1]? with
     | some y => (L.set i (c.marked m l)).set (i + 1) (y.raise l)
     | none => L.set i (c.marked m l)) else L.set i (c.marked m l) := by unfold markAt; rw [hc]; simp only; exact if_neg h7
   rw [hm] at q
   have rest : ∀ M3, Ext M M3 → New 42 M M3 (.slice (some ⟨b, 0, sp⟩) L.length L.length) (L.set i (c.mark m)) → row_Mark_c2_q (.slice (some ⟨b, 0, sp⟩) L.length L.length) (.int .i64 ((i : Nat) : Int)) (.int .u8 l) (.pointer (some ⟨b, 0 + i * 14, none⟩)) M3 Q := fun M3 e3 n3 => by
    have hs : (L.set i (c.mark m))[i]? = some (c.mark m) := by rw [List.getElem?_set, if_pos rfl, if_pos hlt]
    obtain ⟨k1, k2, _, _⟩ := Ce.mark_kind c m
    obtain ⟨v4, M5, h5, e5, s5⟩ := lit2 c.label l M3
    refine ⟨_, rfl, _, rfl, _, n3.load_f (f := 13) hs (by simp [Enc.enc, k2]), v4, M5, h5, join_W ((e3.trans e5).ok hM) s5 (by simp) fun b' hb' => ?_⟩
    rw [join2 hb']
    refine ⟨_, rfl, _, rfl, ?_⟩
    have e35 := e3.trans e5
    refine (n3.ext e5).store' e35 hM (c.marked m l) hs (f := 13) (vs := [.int .u8 (joinF c.label l)]) (Nat.le_of_ble_eq_true rfl) (by simp [splice, Enc.enc, Ce.marked, Ce.raise, k2]) rfl rfl fun u M11 e11 n11 => ?_
    rw [List.set_set] at n11
    have hs2 : (L.set i (c.marked m l))[i]? = some (c.marked m l) := by rw [List.getElem?_set, if_pos rfl, if_pos hlt]
    refine ⟨_, rfl, _, rfl, _, n11.load_f (f := 3) hs2 (x := .int .u8 c.kind) (by simp [Enc.enc, Ce.marked, Ce.raise, k1]), step_eql (wpIf.dec (fun h8 => ?_) (fun h8 => ?_))⟩
    ·rw [if_pos h8] at q
     refine step_add (by omega) (by omega) (step_len (step_lss (wpIf.dec (fun h9 => ?_) (fun h9 => ?_))))
     ·obtain ⟨y, hy⟩ : ∃ y, L[i + 1]? = some y := ⟨_, List.getElem?_eq_getElem (by omega)⟩
      rw [hy] at q
      have hy2 : (L.set i (c.marked m l))[i + 1]? = some y := by rw [List.getElem?_set_ne (by omega)]; exact hy
      refine step_add (by omega) (by omega) (step_add (by omega) (by omega) ?_)
      rw [show (((i : Nat) : Int) + 1) = ((i + 1 : Nat) : Int) by omega]
      obtain ⟨v24, M25, h25, e25, s25⟩ := lit2 y.label l M11
      refine rd_f n11.sl (by omega) (by rw [Int.toNat_natCast]; exact hy2) (f := 13) rfl fun _ _ => ⟨v24, M25, h25, join_W ((e11.trans e25).ok hM) s25 (by simp) fun b'' hb'' => ?_⟩
      rw [join2 hb'']
      exact wr_f (e11.trans e25) hM (n11.ext e25) (y.raise l) hy2 (f := 13) (by decide) rfl rfl rfl fun u' M31 e31 n31 => q M31 _ e31 n31
     ·have hd : L[i + 1]? = none := List.getElem?_eq_none (by omega)
      rw [hd] at q
      exact q M11 _ e11 n11
    ·rw [if_neg h8] at q
     exact q M11 _ e11 n11
   refine ⟨row_Mark_l3_m, maI M L c (.slice (some ⟨b, 0, sp⟩) L.length L.length) (.pointer (some ⟨b, 0 + i * 14, none⟩)) i m l, ⟨2, 0, M2, rfl, e2, n2, by omega, fun h => by omega, fun h => by omega, rfl⟩, ?_⟩
   rintro k s ⟨j, M', rfl, eM, nM, hj, hj1, hj2, rfl⟩
   refine row_Mark_l3_wp (I := maI M L c (.slice (some ⟨b, 0, sp⟩) L.length L.length) (.pointer (some ⟨b, 0 + i * 14, none⟩)) i m l) ?_
   have done : ∀ M3, Ext M M3 → New 42 M M3 (.slice (some ⟨b, 0, sp⟩) L.length L.length) L → (c.m1 ≠ 0 ∧ c.m2 ≠ 0) → row_Mark_c2_q (.slice (some ⟨b, 0, sp⟩) L.length L.length) (.int .i64 ((i : Nat) : Int)) (.int .u8 l) (.pointer (some ⟨b, 0 + i * 14, none⟩)) M3 Q := fun M3 e3 n3 hm => by
    refine rest M3 e3 ?_
    have : L.set i (c.mark m) = L := by
     unfold Ce.mark
     rw [if_neg hm.1, if_neg hm.2]
     obtain ⟨_, rfl⟩ := List.getElem?_eq_some_iff.1 hc
     exact List.set_getElem_self _
    rw [this]; exact n3
   rcases (show j = 0 ∨ j = 1 ∨ j = 2 by omega) with rfl | rfl | rfl
   ·refine step_lss (wpIf.tt ⟨_, rfl, _, rfl, _, rfl, _, nM.load_f (f := 1) hc rfl, step_eql (wpIf.dec (fun h9 => ?_) (fun h9 => ?_))⟩)
    ·refine ⟨_, rfl, _, rfl, _, rfl, nM.store' eM hM (c.mark m) hc (f := 1) (vs := [.int .i32 m]) (Nat.le_of_ble_eq_true rfl) (by simp [splice, Enc.enc, Ce.mark, h9]) rfl rfl fun u M3 e3 n3 => blockK.hit (row_Mark_c2_wp (rest M3 e3 n3))⟩
    ·exact step_add (by omega) (by omega) ⟨1, by omega, 1, M', rfl, eM, nM, by omega, fun _ => h9, fun h => by omega, rfl⟩
   ·refine step_lss (wpIf.tt ⟨_, rfl, _, rfl, _, rfl, _, nM.load_f (f := 2) hc rfl, step_eql (wpIf.dec (fun h9 => ?_) (fun h9 => ?_))⟩)
    ·refine ⟨_, rfl, _, rfl, _, rfl, nM.store' eM hM (c.mark m) hc (f := 2) (vs := [.int .i32 m]) (Nat.le_of_ble_eq_true rfl) (by simp [splice, Enc.enc, Ce.mark, h9, hj1 (by omega)]) rfl rfl fun u M3 e3 n3 => blockK.hit (row_Mark_c2_wp (rest M3 e3 n3))⟩
    ·exact step_add (by omega) (by omega) ⟨0, by omega, 2, M', rfl, eM, nM, by omega, fun _ => hj1 (by omega), fun h => h9, rfl⟩
   ·exact step_lss (wpIf.ff (blockK.hit (row_Mark_c2_wp (done M' eM nM ⟨hj1 (by omega), hj2 (by omega)⟩))))
 ·rw [if_neg (by omega)] at q
  have hlt := (List.getElem?_eq_some_iff.1 hc).1
  have hat : opSem (.addrL 14 (.const (.slice (some ⟨b, 0, sp⟩) L.length L.length)) (.const (.int .i64 ((i : Nat) : Int)))) [] M2 = some (.pointer (some ⟨b, 0 + i * 14, none⟩), M2) := by
   simp only [opSem, ev]
   rw [if_pos ⟨by omega, by omega⟩, Int.toNat_natCast]
  refine row_Mark_c1_wp ⟨_, hat, _, rfl, _, rfl, _, n2.load_f (f := 0) hc rfl, step_eql (wpIf.dec (fun h7 => ?_) (fun h7 => ?_))⟩
  ·have : markAt L i m l = L := by unfold markAt; rw [hc]; exact if_pos h7
   rw [this] at q
   exact q M2 _ e2 n2
  have hm : markAt L i m l = if (c : Ce).kind = 1 then (match L[i + 1]? with
    | some y => (L.set i (c.marked m l)).set (i + 1) (y.raise l)
    | none => L.set i (c.marked m l)) else L.set i (c.marked m l) := by unfold markAt; rw [hc]; simp only; exact if_neg h7
  rw [hm] at q
  have rest : ∀ M3, Ext M M3 → New 42 M M3 (.slice (some ⟨b, 0, sp⟩) L.length L.length) (L.set i (c.mark m)) → row_Mark_c2_q (.slice (some ⟨b, 0, sp⟩) L.length L.length) (.int .i64 ((i : Nat) : Int)) (.int .u8 l) (.pointer (some ⟨b, 0 + i * 14, none⟩)) M3 Q := fun M3 e3 n3 => by
   have hs : (L.set i (c.mark m))[i]? = some (c.mark m) := by rw [List.getElem?_set, if_pos rfl, if_pos hlt]
   obtain ⟨k1, k2, _, _⟩ := Ce.mark_kind c m
   obtain ⟨v4, M5, h5, e5, s5⟩ := lit2 c.label l M3
   refine ⟨_, rfl, _, rfl, _, n3.load_f (f := 13) hs (by simp [Enc.enc, k2]), v4, M5, h5, join_W ((e3.trans e5).ok hM) s5 (by simp) fun b' hb' => ?_⟩
   rw [join2 hb']
   refine ⟨_, rfl, _, rfl, ?_⟩
   have e35 := e3.trans e5
   refine (n3.ext e5).store' e35 hM (c.marked m l) hs (f := 13) (vs := [.int .u8 (joinF c.label l)]) (Nat.le_of_ble_eq_true rfl) (by simp [splice, Enc.enc, Ce.marked, Ce.raise, k2]) rfl rfl fun u M11 e11 n11 => ?_
   rw [List.set_set] at n11
   have hs2 : (L.set i (c.marked m l))[i]? = some (c.marked m l) := by rw [List.getElem?_set, if_pos rfl, if_pos hlt]
   refine ⟨_, rfl, _, rfl, _, n11.load_f (f := 3) hs2 (x := .int .u8 c.kind) (by simp [Enc.enc, Ce.marked, Ce.raise, k1]), step_eql (wpIf.dec (fun h8 => ?_) (fun h8 => ?_))⟩
   ·rw [if_pos h8] at q
    refine step_add (by omega) (by omega) (step_len (step_lss (wpIf.dec (fun h9 => ?_) (fun h9 => ?_))))
    ·obtain ⟨y, hy⟩ : ∃ y, L[i + 1]? = some y := ⟨_, List.getElem?_eq_getElem (by omega)⟩
     rw [hy] at q
     have hy2 : (L.set i (c.marked m l))[i + 1]? = some y := by rw [List.getElem?_set_ne (by omega)]; exact hy
     refine step_add (by omega) (by omega) (step_add (by omega) (by omega) ?_)
     rw [show (((i : Nat) : Int) + 1) = ((i + 1 : Nat) : Int) by omega]
     obtain ⟨v24, M25, h25, e25, s25⟩ := lit2 y.label l M11
     refine rd_f n11.sl (by omega) (by rw [Int.toNat_natCast]; exact hy2) (f := 13) rfl fun _ _ => ⟨v24, M25, h25, join_W ((e11.trans e25).ok hM) s25 (by simp) fun b'' hb'' => ?_⟩
     rw [join2 hb'']
     exact wr_f (e11.trans e25) hM (n11.ext e25) (y.raise l) hy2 (f := 13) (by decide) rfl rfl rfl fun u' M31 e31 n31 => q M31 _ e31 n31
    ·have hd : L[i + 1]? = none := List.getElem?_eq_none (by omega)
     rw [hd] at q
     exact q M11 _ e11 n11
   ·rw [if_neg h8] at q
    exact q M11 _ e11 n11
  refine ⟨row_Mark_l3_m, maI M L c (.slice (some ⟨b, 0, sp⟩) L.length L.length) (.pointer (some ⟨b, 0 + i * 14, none⟩)) i m l, ⟨2, 0, M2, rfl, e2, n2, by omega, fun h => by omega, fun h => by omega, rfl⟩, ?_⟩
  rintro k s ⟨j, M', rfl, eM, nM, hj, hj1, hj2, rfl⟩
  refine row_Mark_l3_wp (I := maI M L c (.slice (some ⟨b, 0, sp⟩) L.length L.length) (.pointer (some ⟨b, 0 + i * 14, none⟩)) i m l) ?_
  have done : ∀ M3, Ext M M3 → New 42 M M3 (.slice (some ⟨b, 0, sp⟩) L.length L.length) L → (c.m1 ≠ 0 ∧ c.m2 ≠ 0) → row_Mark_c2_q (.slice (some ⟨b, 0, sp⟩) L.length L.length) (.int .i64 ((i : Nat) : Int)) (.int .u8 l) (.pointer (some ⟨b, 0 + i * 14, none⟩)) M3 Q := fun M3 e3 n3 hm => by
   refine rest M3 e3 ?_
   have : L.set i (c.mark m) = L := by
    unfold Ce.mark
    rw [if_neg hm.1, if_neg hm.2]
    obtain ⟨_, rfl⟩ := List.getElem?_eq_some_iff.1 hc
    exact List.set_getElem_self _
   rw [this]; exact n3
  rcases (show j = 0 ∨ j = 1 ∨ j = 2 by omega) with rfl | rfl | rfl
  ·refine step_lss (wpIf.tt ⟨_, rfl, _, rfl, _, rfl, _, nM.load_f (f := 1) hc rfl, step_eql (wpIf.dec (fun h9 => ?_) (fun h9 => ?_))⟩)
   ·refine ⟨_, rfl, _, rfl, _, rfl, nM.store' eM hM (c.mark m) hc (f := 1) (vs := [.int .i32 m]) (Nat.le_of_ble_eq_true rfl) (by simp [splice, Enc.enc, Ce.mark, h9]) rfl rfl fun u M3 e3 n3 => blockK.hit (row_Mark_c2_wp (rest M3 e3 n3))⟩
   ·exact step_add (by omega) (by omega) ⟨1, by omega, 1, M', rfl, eM, nM, by omega, fun _ => h9, fun h => by omega, rfl⟩
  ·refine step_lss (wpIf.tt ⟨_, rfl, _, rfl, _, rfl, _, nM.load_f (f := 2) hc rfl, step_eql (wpIf.dec (fun h9 => ?_) (fun h9 => ?_))⟩)
   ·refine ⟨_, rfl, _, rfl, _, rfl, nM.store' eM hM (c.mark m) hc (f := 2) (vs := [.int .i32 m]) (Nat.le_of_ble_eq_true rfl) (by simp [splice, Enc.enc, Ce.mark, h9, hj1 (by omega)]) rfl rfl fun u M3 e3 n3 => blockK.hit (row_Mark_c2_wp (rest M3 e3 n3))⟩
   ·exact step_add (by omega) (by omega) ⟨0, by omega, 2, M', rfl, eM, nM, by omega, fun _ => hj1 (by omega), fun h => h9, rfl⟩
  ·exact step_lss (wpIf.ff (blockK.hit (row_Mark_c2_wp (done M' eM nM ⟨hj1 (by omega), hj2 (by omega)⟩))))
end
end Go.Proofs.Ytifemfnjoobiiaa.Run
