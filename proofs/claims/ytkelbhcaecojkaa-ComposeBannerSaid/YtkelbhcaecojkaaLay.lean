/- Chapter 30: a row of a tile is laid into a row of the screen; whether there can be a screen. -/
import Derived.Test.YtkelbhcaecojkaaCompP
import Derived.Test.YtkelbhcaecojkaaCopy2
import Derived.Test.YtkelbhcaecojkaaVcS
namespace Go.Proofs.Ytkelbhcaecojkaa.Run
open Go Go.RowKit
set_option linter.unusedVariables false
set_option linter.unusedSimpArgs false

section
variable {M : Mem} {Q : Value → Mem → Prop}
theorem screen_W (hM : M.base ≤ M.size) {R C : Int} (hR : 2 ≤ R ∧ R ≤ 512) (hC : 1 ≤ C ∧ C ≤ 512) (q : Q (.bool true) M) : W funs known (.func (.func n_pane_screen) #[] #[]) [.int .i64 R, .int .i64 C] M Q :=
  pane_screen_wp hM (step_geq (by rw [decide_eq_true (by omega)]; exact wpIf.tt (step_leq (by rw [decide_eq_true (by omega)]; exact wpIf.tt (step_geq (by rw [decide_eq_true (by omega)]; exact wpIf.tt (step_leq (by rw [decide_eq_true (by omega)]; exact q))))))))
theorem apart0_W (hM : M.base ≤ M.size) (q : Q (.bool true) M) : W funs known (.func (.func n_pane_Apart) #[] #[]) [.slice none 0 0] M Q := by
  refine pane_Apart_wp hM (step_len ⟨pane_Apart_l1_m, fun k s => s = pane_Apart_l1_s (.slice none 0 0) (.slice none 0 0) (.int .i64 0) (.int .i64 0) [] M, ⟨0, rfl⟩, ?_⟩)
  rintro k s rfl
  exact pane_Apart_l1_wp (I := fun k s => s = pane_Apart_l1_s (.slice none 0 0) (.slice none 0 0) (.int .i64 0) (.int .i64 0) [] M) (s_ltF (by decide) (wpIf.ff (blockK.hit (pane_Apart_c0_wp q))))
theorem check0_W (hM : M.base ≤ M.size) {R C : Int} (hR : 2 ≤ R ∧ R ≤ 512) (hC : 1 ≤ C ∧ C ≤ 512) (q : Q (.int .i64 0) M) : W funs known (.func (.func n_pane_Check) #[] #[]) [.int .i64 R, .int .i64 C, .slice none 0 0] M Q := by
  refine pane_Check_wp hM (screen_W hM hR hC ⟨_, rfl, wpIf.ff (step_len ⟨pane_Check_l1_m, fun k s => s = pane_Check_l1_s (.int .i64 R) (.int .i64 C) (.slice none 0 0) (.slice none 0 0) (.int .i64 0) (.int .i64 0) [] M, ⟨0, rfl⟩, ?_⟩)⟩)
  rintro k s rfl
  exact pane_Check_l1_wp (I := fun k s => s = pane_Check_l1_s (.int .i64 R) (.int .i64 C) (.slice none 0 0) (.slice none 0 0) (.int .i64 0) (.int .i64 0) [] M) (s_ltF (by decide) (wpIf.ff (blockK.hit (pane_Check_c0_wp (apart0_W hM ⟨_, rfl, wpIf.ff q⟩)))))

theorem lay_W (hM : M.base ≤ M.size) {v w : Value} {L own : List Ce} (h : Sl M v L) (hO : Sl M w own) (hL : L.length ≤ 2 ^ 30) (hOl : own.length ≤ 2 ^ 30) {x f n : Int} (hx : 0 ≤ x ∧ x + n ≤ L.length) (hf : 0 ≤ f ∧ f ≤ 2 ^ 40) (hn : 0 ≤ n) (q : ∀ M' r, Ext M M' → (New 53 M M' r (layF L own x f n) ∨ (r = v ∧ M' = M ∧ layF L own x f n = L)) → Q r M') :
    W funs known (.func (.func n_compose_lay) #[] #[]) [v, w, .int .i64 x, .int .i64 f, .int .i64 n] M Q := by
  obtain ⟨a0, c0, rfl⟩ := h.shape
  obtain ⟨a1, c1, rfl⟩ := hO.shape
  refine compose_lay_wp hM (step_len (step_sub (by omega) (by omega) (step_min (step_leq (wpIf.dec (fun h0 => ?_) (fun h0 => ?_))))))
  · exact q M _ (Ext.refl _) (.inr ⟨rfl, rfl, by unfold layF; rw [if_pos h0]⟩)
  have hF : layF L own x f n = (brk2 L x (x + min n ((own.length : Int) - f))).take x.toNat ++ ((brk2 own f (f + min n ((own.length : Int) - f))).drop f.toNat).take (min n ((own.length : Int) - f)).toNat ++ (brk2 L x (x + min n ((own.length : Int) - f))).drop (x.toNat + (min n ((own.length : Int) - f)).toNat) := by unfold layF; rw [if_neg h0]
  have hmn : min n ((own.length : Int) - f) ≤ n ∧ min n ((own.length : Int) - f) ≤ (own.length : Int) - f := by omega
  generalize hmd : min n ((own.length : Int) - f) = m at h0 hF hmn ⊢
  obtain ⟨p, rfl⟩ : ∃ p : Nat, x = p := ⟨x.toNat, by omega⟩
  obtain ⟨g, rfl⟩ : ∃ g : Nat, f = g := ⟨f.toNat, by omega⟩
  obtain ⟨k, rfl⟩ : ∃ k : Nat, m = k := ⟨m.toNat, by omega⟩
  simp only [Int.toNat_natCast] at hF
  refine step_add (by omega) (by omega) ?_
  refine step_lit [(⟨(p : Int)⟩ : In), ⟨(p : Int) + k⟩] rfl rfl fun va M7 e7 n7 => ?_
  refine break_W (e7.ok hM) (h.ext e7) n7.sl hL (by simp) fun M9 r8 e9 n9 => ?_
  have e09 := e7.trans e9
  refine step_add (by omega) (by omega) ?_
  have n9 : New 53 M M9 r8 (brk2 L p (p + k)) := New.old e7 n9
  have hBl := brk2_len L (p : Int) (p + k)
  obtain ⟨d, hd, hcopy⟩ := copy2 e09 hM n9 (x := p) (m := k) (by omega) (by rw [hBl]; omega) (j := .i64)
  refine ⟨d, hd, step_add (by omega) (by omega) ?_⟩
  refine step_lit [(⟨(g : Int)⟩ : In), ⟨(g : Int) + k⟩] rfl rfl fun vb M14 e14 n14 => ?_
  have e014 := e09.trans e14
  refine break_W (e014.ok hM) (hO.ext e014) n14.sl hOl (by simp) fun M16 r15 e16 n16 => ?_
  have n16 : New 53 M14 M16 r15 (brk2 own g (g + k)) := n16
  obtain ⟨s, hs, u, M', hc, e', n'⟩ := hcopy (e14.trans e16) (f := g) (by rw [brk2_len]; omega) n16
  refine ⟨s, hs, u, M', hc, q M' r8 e' (.inl ?_)⟩
  rw [hF]; exact n'
end
end Go.Proofs.Ytkelbhcaecojkaa.Run
