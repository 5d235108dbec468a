/- What each character set, or number, makes of any rune is the same by the program and by the reference: the pure statement. No condition beyond the kinds' ranges. -/
import Derived.Test.YtkhdobhcnhaokaaAllx6
import Derived.KernelRfl
namespace Go.Proofs.Ytkhdobhcnhaokaa.Pure
open Go.RowKit Go.Proofs.Ytkhdobhcnhaokaa.All Go.Proofs.YtkhdobhcnhaokaaW.PrintWords Go.Proofs.YtkhdobhcnhaokaaW.PrintLast

def chTab : List Int := [32, 9670, 9618, 9225, 9228, 9229, 9226, 176, 177, 9252, 9227, 9496, 9488, 9484, 9492, 9532, 9146, 9147, 9472, 9148, 9149, 9500, 9508, 9524, 9516, 9474, 8804, 8805, 960, 8800, 163, 183]
/-- What a set makes of a rune. -/
def chOf (s r : Int) : Int := if s = 2 ∧ r = 35 then 163 else if s = 1 ∧ 95 ≤ r ∧ r ≤ 126 then rd chTab (r - 95) else r

theorem chOf_hash {s r : Int} (h : s = 2) (h' : r = 35) : chOf s r = 163 := by unfold chOf; rw [if_pos ⟨h, h'⟩]
theorem chOf_tab {s r : Int} (h : s = 1) (a : 95 ≤ r) (b : r ≤ 126) : chOf s r = rd chTab (r - 95) := by unfold chOf; rw [if_neg (by omega), if_pos ⟨h, a, b⟩]
theorem chOf_id {s r : Int} (h : ¬ (s = 2 ∧ r = 35)) (h' : ¬ (s = 1 ∧ 95 ≤ r ∧ r ≤ 126)) : chOf s r = r := by unfold chOf; rw [if_neg h, if_neg h']

theorem of_prog (k : Nat) (s r : Int) : charset_Of.f (k + 1) s r = some (chOf s r) := by
  unfold charset_Of.f
  by_cases h2 : s = 2
  · rw [if_pos h2]
    simp only [charset_Of.j0]
    by_cases h : r = 35
    · rw [if_pos (by simpa using h), chOf_hash h2 h]
    · rw [if_neg (by simpa using h), if_neg (by omega), chOf_id (by omega) (by omega)]
  · rw [if_neg h2]
    simp only [charset_Of.j0]
    rw [if_neg (by simp)]
    by_cases h1 : s = 1
    · rw [if_pos h1]
      by_cases a : r ≥ 95
      · rw [if_pos a]
        by_cases b : r ≤ 126
        · have hw : wrap32 (r - 95) = r - 95 := by unfold wrap32; omega
          rw [if_pos b, chOf_tab h1 a b]
          unfold charset_graphics.f
          simp only [Option.bind_some, hw]
          rw [if_pos (by omega), if_pos (by omega)]
          rfl
        · rw [if_neg b, chOf_id (by omega) (by omega)]
      · rw [if_neg a, chOf_id (by omega) (by omega)]
    · rw [if_neg h1, chOf_id (by omega) (by omega)]

theorem of_ref (k : Nat) (s r : Int) : marqueeref05_Of.f (k + 1) s r = some (chOf s r) := by
  unfold marqueeref05_Of.f
  by_cases h2 : s = 2
  · rw [if_pos h2]
    simp only [marqueeref05_Of.j0]
    by_cases h : r = 35
    · rw [if_pos (by simpa using h), chOf_hash h2 h]
    · rw [if_neg (by simpa using h), if_neg (by omega), chOf_id (by omega) (by omega)]
  · rw [if_neg h2]
    simp only [marqueeref05_Of.j0]
    rw [if_neg (by simp)]
    by_cases h1 : s = 1
    · rw [if_pos h1]
      by_cases a : r < 95
      · rw [if_pos a, chOf_id (by omega) (by omega)]
      · rw [if_neg a]
        by_cases b : r > 126
        · rw [if_pos b, chOf_id (by omega) (by omega)]
        · have hw : wrap32 (r - 95) = r - 95 := by unfold wrap32; omega
          rw [if_neg b, chOf_tab h1 (by omega) (by omega)]
          simp only [Option.bind_some, hw]
          rw [if_pos (by omega), if_pos (by simp only [List.length_cons, List.length_nil]; omega)]
          rfl
    · rw [if_neg h1, chOf_id (by omega) (by omega)]

theorem ev_prog (s r : Int) : Ev (fun k => charset_Of.f k s r) (chOf s r) := ⟨1, fun k hk => by
  obtain ⟨k, rfl⟩ : ∃ m, k = m + 1 := ⟨k - 1, by omega⟩
  exact of_prog k s r⟩
theorem ev_ref (s r : Int) : Ev (fun k => marqueeref05_Of.f k s r) (chOf s r) := ⟨1, fun k hk => by
  obtain ⟨k, rfl⟩ : ∃ m, k = m + 1 := ⟨k - 1, by omega⟩
  exact of_ref k s r⟩
theorem ev_works : Ev (fun k => marqueelaw05_works.f k) true := Ev.of (fun k => marqueelaw05_works.mono k) (k := 3) (by kernel_rfl)
theorem ev_l1 (x0 : Int) (l : List Int) (i : Int) (h0 : 0 ≤ i) (h1 : i < (l.length : Int)) (hm : (l.length : Int) ≤ 35184372088832) (hnext : Ev (fun k => marqueelaw05_CharsetOf.l0 k x0 l (i + 1)) true) (d : Nat) :
    ∀ n : Int, n = 4 - (d : Int) → -1 ≤ n → Ev (fun k => marqueelaw05_CharsetOf.l1 k x0 l i n) true := by
  induction d with
  | zero =>
    intro n hn _
    refine Ev.step (fun k => by simp only [marqueelaw05_CharsetOf.l1]; rfl) ?_
    have hw : wrap64 (i + 1) = i + 1 := by unfold wrap64; omega
    simp only [if_neg (show ¬ n < 4 by omega), if_pos h0, if_pos h1, hw]
    refine Ev.bind (ev_prog _ _) ?_
    refine Ev.bind (ev_ref _ _) ?_
    simpa using hnext
  | succ d ih =>
    intro n hn hlo
    refine Ev.step (fun k => by simp only [marqueelaw05_CharsetOf.l1]; rfl) ?_
    have hw : wrap64 (n + 1) = n + 1 := by unfold wrap64; omega
    simp only [if_pos (show n < 4 by omega), if_pos h0, if_pos h1, hw]
    refine Ev.bind (ev_prog _ _) ?_
    refine Ev.bind (ev_ref _ _) ?_
    simp only [if_true]
    refine Ev.bind (ev_prog _ _) ?_
    refine Ev.bind (ev_ref _ _) ?_
    simpa using ih (n + 1) (by omega) (by omega)

theorem ev_l0 (x0 : Int) (l : List Int) (hm : (l.length : Int) ≤ 35184372088832) (d : Nat) :
    ∀ i : Int, 0 ≤ i → i ≤ (l.length : Int) → (l.length : Int) - i = d → Ev (fun k => marqueelaw05_CharsetOf.l0 k x0 l i) true := by
  have fin : ∀ i, Ev (fun k => marqueelaw05_CharsetOf.j1 k x0 l i false) true := fun i => by
    refine Ev.step (fun k => by simp only [marqueelaw05_CharsetOf.j1]; rfl) ?_
    simp only [Bool.false_eq_true, if_false]
    exact Ev.bind ev_works (Ev.now true)
  induction d with
  | zero =>
    intro i h0 h1 hd
    refine Ev.step (fun k => by simp only [marqueelaw05_CharsetOf.l0]; rfl) ?_
    simp only [if_neg (show ¬ i < (l.length : Int) by omega)]
    exact fin i
  | succ d ih =>
    intro i h0 h1 hd
    refine Ev.step (fun k => by simp only [marqueelaw05_CharsetOf.l0]; rfl) ?_
    simp only [if_pos (show i < (l.length : Int) by omega)]
    by_cases h : i < 100
    · simp only [decide_eq_true h]
      refine Ev.step (fun k => by simp only [marqueelaw05_CharsetOf.j1]; rfl) ?_
      simp only [if_true]
      exact ev_l1 x0 l i h0 (by omega) hm (ih (i + 1) (by omega) (by omega) (by omega)) 5 (-1) (by omega) (by omega)
    · simp only [decide_eq_false h]
      exact fin i

theorem CharsetOf : marqueelaw05_CharsetOf.Pure := by
  intro a0 l _ _ hl _
  exact (ev_l0 a0 l (by omega) l.length 0 (by omega) (by omega) (by omega)).rounds

end Go.Proofs.Ytkhdobhcnhaokaa.Pure
