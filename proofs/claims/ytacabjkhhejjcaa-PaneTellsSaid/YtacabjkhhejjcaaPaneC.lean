/- What Apart and Check of chapter 26 answer. -/
import Derived.Test.YtacabjkhhejjcaaPaneB
namespace Go.Proofs.Ytacabjkhhejjcaa.Run
open Go Go.RowKit
set_option linter.unusedVariables false
set_option linter.unusedSimpArgs false

theorem Sl.addrN {α : Type} [E : Enc α] {M : Mem} {v : Value} {L : List α} (h : Sl M v L) {i : Nat} {a : α} (hi : L[i]? = some a) {j : IntKind} (N : Mem) : ∃ p, opSem (.addrL E.k (.const v) (.const (.int j (i : Int)))) [] N = some (p, N) ∧ At M p a :=
  h.addr (by omega) (by rw [Int.toNat_natCast]; exact hi) N

/-- no two of them meet -/
def apartF (L : List Rc) : Bool := decide (L.Pairwise fun x y => meetF y x = false)
theorem apartF_iff {L : List Rc} : apartF L = true ↔ ∀ (x y : Nat) (a b : Rc), L[x]? = some a → L[y]? = some b → y < x → meetF a b = false := by
  unfold apartF
  rw [decide_eq_true_iff, List.pairwise_iff_getElem]
  constructor
  · intro h x y a b hx hy hlt
    obtain ⟨h1, rfl⟩ := List.getElem?_eq_some_iff.1 hx
    obtain ⟨h2, rfl⟩ := List.getElem?_eq_some_iff.1 hy
    exact h y x h2 h1 hlt
  · intro h i j hi hj hlt
    exact h j i _ _ (List.getElem?_eq_getElem hj) (List.getElem?_eq_getElem hi) hlt

section
variable {Q : Value → Mem → Prop}

abbrev apI (M : Mem) (L : List Rc) (v : Value) : Nat → LS → Prop := fun k s => ∃ (i : Nat) (M' : Mem), s = pane_Apart_l1_s v v (.int .i64 L.length) (.int .i64 i) [] M' ∧ Ext M M' ∧ i ≤ L.length ∧ (∀ (x y : Nat) (a b : Rc), L[x]? = some a → L[y]? = some b → y < x → x < i → meetF a b = false) ∧ k = L.length - i
abbrev apJ (M : Mem) (L : List Rc) (v v' : Value) (i : Nat) (b4 : Nat) (a : Rc) : Nat → LS → Prop := fun k s => ∃ (j : Nat) (M' : Mem), s = pane_Apart_l3_s v v (.int .i64 L.length) (.int .i64 i) v' (.int .i64 i) (.int .i64 j) b4 [.int .i64 a.t, .int .i64 a.l, .int .i64 a.r, .int .i64 a.c] [] M' ∧ Ext M M' ∧ j ≤ i ∧ (∀ (y : Nat) (b : Rc), L[y]? = some b → y < j → meetF a b = false) ∧ k = i - j

set_option maxHeartbeats 1000000 in
theorem apart_W {M : Mem} (hM : M.base ≤ M.size) {v : Value} {L : List Rc} (h : Sl M v L) (hok : ∀ a ∈ L, a.ok) (hL : L.length < 2 ^ 60)
    (q : ∀ M', Ext M M' → Q (.bool (apartF L)) M') : W funs known (.func (.func n_pane_Apart) #[] #[]) [v] M Q := by
  obtain ⟨ad, cap, rfl, hcap, hs⟩ := id h
  refine pane_Apart_wp hM (step_len ?_)
  refine ⟨pane_Apart_l1_m, apI M L (.slice ad L.length cap), ⟨L.length, 0, M, rfl, Ext.refl M, Nat.zero_le _, fun x y a b _ _ _ hx => absurd hx (by omega), rfl⟩, ?_⟩
  rintro k s ⟨i, M', rfl, eM, hi, hA, rfl⟩
  refine pane_Apart_l1_wp (I := apI M L (.slice ad L.length cap)) ?_
  refine step_lss (wpIf.dec (fun h1 => ?_) (fun h1 => ?_))
  rotate_left
  · refine blockK.hit (pane_Apart_c0_wp ?_)
    have : apartF L = true := apartF_iff.2 fun x y a b hx hy hlt => hA x y a b hx hy hlt (by have := (List.getElem?_eq_some_iff.1 hx).1; omega)
    exact this ▸ q M' eM
  · have hlt : i < L.length := by omega
    obtain ⟨a, ha⟩ : ∃ a, L[i]? = some a := ⟨_, List.getElem?_eq_getElem hlt⟩
    have hne : L ≠ [] := by rintro rfl; simp at hlt
    obtain ⟨p, hp, hat⟩ := (h.ext eM).addrN ha (j := .i64) M'
    refine ⟨p, hp, _, hat.load, rfl, fun b4 M5 hb4 hM5 => ⟨⟨rfl, rfl, by decide⟩, fun M6 hM6 => ?_⟩⟩
    have e5 : Ext M M5 := eM.trans (Ext.push' hM5)
    have s5 : M5.size = M'.size + 1 := by rw [hM5]; rfl
    have sM := eM.size
    have e6 : Ext M M6 := by rw [hM6]; exact e5.set (by omega) (by omega) _
    obtain ⟨v', hv', hsl⟩ := (h.ext e6).take (i := i) (by omega) hne (j := .i64) M6
    refine ⟨v', hv', ?_⟩
    have hlen : (L.take i).length = i := by rw [List.length_take]; omega
    obtain ⟨ad', cap', rfl, hcap', hs'⟩ := id hsl
    rw [hlen] at *
    refine step_len ?_
    refine ⟨pane_Apart_l3_m, apJ M6 L (.slice ad L.length cap) (.slice ad' i cap') i b4 a, ⟨i, 0, M6, rfl, Ext.refl _, Nat.zero_le _, fun y b _ hy => absurd hy (by omega), rfl⟩, ?_⟩
    rintro k s ⟨j, M₂, rfl, e62, hj, hB, rfl⟩
    have eM2 : Ext M M₂ := e6.trans e62
    refine pane_Apart_l3_wp (I := apJ M6 L (.slice ad L.length cap) (.slice ad' i cap') i b4 a) ?_
    refine step_lss (wpIf.dec (fun h2 => ?_) (fun h2 => ?_))
    rotate_left
    · -- none of them meets it
      refine blockK.hit (pane_Apart_c2_wp (ar := none) (step_add (by omega) (by omega) ?_))
      refine ⟨L.length - (i + 1), by omega, i + 1, M₂, rfl, eM2, by omega, fun x y c d hx hy hlt hxi => ?_, rfl⟩
      rcases Nat.lt_or_eq_of_le (Nat.le_of_lt_succ hxi) with h3 | rfl
      · exact hA x y c d hx hy hlt h3
      · rw [ha] at hx
        cases hx
        exact hB y d hy (by omega)
    · have hjl : j < i := by omega
      obtain ⟨b, hb⟩ : ∃ b, L[j]? = some b := ⟨_, List.getElem?_eq_getElem (by omega)⟩
      have hb' : (L.take i)[j]? = some b := by rw [List.getElem?_take, if_pos hjl]; exact hb
      have hsl2 : Sl M₂ (.slice ad' i cap') (L.take i) := hsl.ext e62
      obtain ⟨p', hp', hat'⟩ := hsl2.addrN hb' (j := .i64) M₂
      refine ⟨p', hp', _, hat'.load, rfl, fun b7 M8 hb7 hM8 => ⟨⟨rfl, rfl, by decide⟩, fun M9 hM9 => ?_⟩⟩
      have e8 : Ext M M8 := eM2.trans (Ext.push' hM8)
      have s8 : M8.size = M₂.size + 1 := by rw [hM8]; rfl
      have sM2 := eM2.size
      have e9 : Ext M M9 := by rw [hM9]; exact e8.set (by omega) (by omega) _
      have s62 := e62.size
      have e69 : Ext M6 M9 := by rw [hM9]; exact (e62.trans (Ext.push' hM8)).set (by omega) (by omega) _
      obtain ⟨a1, a2, a3, a4⟩ := hok a (List.mem_of_getElem? ha)
      obtain ⟨d1, d2, d3, d4⟩ := hok b (List.mem_of_getElem? hb)
      refine LGet.mk (v := .int .i64 a.t) rfl (LGet.mk (v := .int .i64 a.r) rfl (LGet.mk (v := .int .i64 b.t) rfl (LGet.mk (v := .int .i64 b.r) rfl ?_)))
      refine span_W (e9.ok hM) a1 a3 d1 d3 ⟨KeepB.refl _ _, wpIf.mk (fun t1 => ?_) (fun t1 => ?_)⟩
      · refine LGet.mk (v := .int .i64 a.l) rfl (LGet.mk (v := .int .i64 a.c) rfl (LGet.mk (v := .int .i64 b.l) rfl (LGet.mk (v := .int .i64 b.c) rfl ?_)))
        refine span_W (e9.ok hM) a2 a4 d2 d4 ⟨KeepB.refl _ _, wpIf.mk (fun t2 => ?_) (fun t2 => ?_)⟩
        · -- they meet
          have : apartF L = false := by
            apply Bool.eq_false_iff.2
            intro hc
            have := apartF_iff.1 hc i j a b ha hb hjl
            unfold meetF at this
            rw [t1, t2] at this
            cases this
          exact (this ▸ q M9 e9)
        · refine step_add (by omega) (by omega) ⟨i - (j + 1), by omega, j + 1, M9, rfl, e69, by omega, fun y d hy hyj => ?_, rfl⟩
          rcases Nat.lt_or_eq_of_le (Nat.le_of_lt_succ hyj) with h3 | rfl
          · exact hB y d hy h3
          · rw [hb] at hy
            cases hy
            unfold meetF
            rw [t1, t2]; rfl
      · refine step_add (by omega) (by omega) ⟨i - (j + 1), by omega, j + 1, M9, rfl, e69, by omega, fun y d hy hyj => ?_, rfl⟩
        rcases Nat.lt_or_eq_of_le (Nat.le_of_lt_succ hyj) with h3 | rfl
        · exact hB y d hy h3
        · rw [hb] at hy
          cases hy
          unfold meetF
          rw [t1]; rfl

/-- what Check answers -/
def checkF (R C : Int) (L : List Rc) : Int := if screenF R C then (if L.all (inF R C) && apartF L then 0 else 8) else 5

abbrev ckI (M : Mem) (R C : Int) (L : List Rc) (v : Value) : Nat → LS → Prop := fun k s => ∃ (i : Nat) (M' : Mem), s = pane_Check_l1_s (.int .i64 R) (.int .i64 C) v v (.int .i64 L.length) (.int .i64 i) [] M' ∧ Ext M M' ∧ i ≤ L.length ∧ (∀ (x : Nat) (a : Rc), L[x]? = some a → x < i → inF R C a = true) ∧ k = L.length - i

theorem all_of {L : List Rc} {P : Rc → Bool} (h : ∀ (x : Nat) (a : Rc), L[x]? = some a → P a = true) : L.all P = true := by
  rw [List.all_eq_true]
  intro a ha
  obtain ⟨x, hx⟩ := List.mem_iff_getElem?.1 ha
  exact h x a hx
theorem not_all_of {L : List Rc} {P : Rc → Bool} {x : Nat} {a : Rc} (hx : L[x]? = some a) (h : P a = false) : L.all P = false := by
  apply Bool.eq_false_iff.2
  intro hc
  rw [List.all_eq_true] at hc
  rw [hc a (List.mem_of_getElem? hx)] at h
  cases h

theorem n_of {x y : Int} {M : Mem} (q : Q (.int .i64 x) M) (h : x = y) : Q (.int .i64 y) M := h ▸ q

set_option maxHeartbeats 1000000 in
theorem check_W {M : Mem} (hM : M.base ≤ M.size) {v : Value} {L : List Rc} (h : Sl M v L) (hok : ∀ a ∈ L, a.ok) (hL : L.length < 2 ^ 60) {R C : Int} (hR : I64 R) (hC : I64 C)
    (q : ∀ M', Ext M M' → Q (.int .i64 (checkF R C L)) M') : W funs known (.func (.func n_pane_Check) #[] #[]) [.int .i64 R, .int .i64 C, v] M Q := by
  obtain ⟨ad, cap, rfl, hcap, hs⟩ := id h
  refine pane_Check_wp hM (screen_W hM (step_not (wpIf.not (fun hb => ?_) (fun hb => step_len ?_))))
  · exact n_of (q M (Ext.refl M)) (by unfold checkF; rw [hb]; rfl)
  refine ⟨pane_Check_l1_m, ckI M R C L (.slice ad L.length cap), ⟨L.length, 0, M, rfl, Ext.refl M, Nat.zero_le _, fun x a _ hx => absurd hx (by omega), rfl⟩, ?_⟩
  rintro k s ⟨i, M', rfl, eM, hi, hA, rfl⟩
  refine pane_Check_l1_wp (I := ckI M R C L (.slice ad L.length cap)) ?_
  refine step_lss (wpIf.dec (fun h1 => ?_) (fun h1 => ?_))
  rotate_left
  · have hall : L.all (inF R C) = true := all_of fun x a hx => hA x a hx (by have := (List.getElem?_eq_some_iff.1 hx).1; omega)
    refine blockK.hit (pane_Check_c0_wp (apart_W (eM.ok hM) (h.ext eM) hok hL fun M2 e2 => step_not (wpIf.not (fun hb' => ?_) (fun hb' => ?_))))
    · exact n_of (q M2 (eM.trans e2)) (by unfold checkF; rw [hb, hall, hb']; rfl)
    · exact n_of (q M2 (eM.trans e2)) (by unfold checkF; rw [hb, hall, hb']; rfl)
  · have hlt : i < L.length := by omega
    obtain ⟨a, ha⟩ : ∃ a, L[i]? = some a := ⟨_, List.getElem?_eq_getElem hlt⟩
    obtain ⟨p, hp, hat⟩ := (h.ext eM).addrN ha (j := .i64) M'
    refine ⟨p, hp, _, hat.load, rfl, fun b4 M5 hb4 hM5 => ⟨⟨rfl, rfl, by decide⟩, fun M6 hM6 => ?_⟩⟩
    have e5 : Ext M M5 := eM.trans (Ext.push' hM5)
    have s5 : M5.size = M'.size + 1 := by rw [hM5]; rfl
    have sM := eM.size
    have e6 : Ext M M6 := by rw [hM6]; exact e5.set (by omega) (by omega) _
    refine LGetN.as a.val (by exact Nat.le_refl 4) rfl ?_
    refine in_W (e6.ok hM) (hok a (List.mem_of_getElem? ha)) hR hC fun M9 e9 => ⟨e9.keep _, step_not (wpIf.not (fun hb' => ?_) (fun hb' => ?_))⟩
    · have : checkF R C L = 8 := by unfold checkF; rw [hb, not_all_of ha hb']; rfl
      exact (this ▸ q M9 (e6.trans e9))
    · refine step_add (by omega) (by omega) ⟨L.length - (i + 1), by omega, i + 1, M9, rfl, e6.trans e9, by omega, fun x c hx hxi => ?_, rfl⟩
      rcases Nat.lt_or_eq_of_le (Nat.le_of_lt_succ hxi) with h3 | rfl
      · exact hA x c hx h3
      · rw [ha] at hx
        cases hx
        exact hb'
end
end Go.Proofs.Ytacabjkhhejjcaa.Run
