/- Whatever is designated, locked, shifted and mapped, the program's choice and the reference's stay the same six numbers, and every answer is the same: the pure statement. No condition beyond the kinds' ranges. -/
import Derived.Test.YtkhdobhcnhaokaaOkCharsetPlays
import Derived.Test.YtkhdobhcnhaokaaPureCharsetOf
namespace Go.Proofs.Ytkhdobhcnhaokaa.Pure
open Go.RowKit Go.Proofs.Ytkhdobhcnhaokaa.All Go.Proofs.YtkhdobhcnhaokaaW.PrintWords Go.Proofs.YtkhdobhcnhaokaaW.PrintLast

abbrev St := Int × Int × Int × Int × Int × Int
/-- A choice that acts can reach. -/
def Inv (s : St) : Prop := (0 ≤ s.1 ∧ s.1 ≤ 2) ∧ (0 ≤ s.2.1 ∧ s.2.1 ≤ 2) ∧ (0 ≤ s.2.2.1 ∧ s.2.2.1 ≤ 2) ∧ (0 ≤ s.2.2.2.1 ∧ s.2.2.2.1 ≤ 2) ∧ (s.2.2.2.2.1 = 0 ∨ s.2.2.2.2.1 = 1) ∧ (s.2.2.2.2.2 = 0 ∨ s.2.2.2.2.2 = 2 ∨ s.2.2.2.2.2 = 3)
def bit (q : Bool) : Bool := q

theorem set_ok (x : Int) : ∃ n q, charset_set.f x = some (n, q) ∧ 0 ≤ n ∧ n ≤ 2 := by
  unfold charset_set.f
  by_cases h1 : x = 66
  · exact ⟨0, true, by rw [if_pos h1], by omega, by omega⟩
  · rw [if_neg h1]
    by_cases h2 : x = 48
    · exact ⟨1, true, by rw [if_pos h2], by omega, by omega⟩
    · rw [if_neg h2]
      by_cases h3 : x = 65
      · exact ⟨2, true, by rw [if_pos h3], by omega, by omega⟩
      · exact ⟨0, false, by rw [if_neg h3], by omega, by omega⟩

theorem des_ok {a b c d e f : Int} (hi : Inv (a, b, c, d, e, f)) (p x : Int) :
    ∃ (s : St) (q : Bool), charset_Choice_Designate.f a b c d e f p x = some (s.1, s.2.1, s.2.2.1, s.2.2.2.1, s.2.2.2.2.1, s.2.2.2.2.2, q) ∧ marqueeref05_Choice_Designate.f a b c d e f p x = some (s.1, s.2.1, s.2.2.1, s.2.2.2.1, s.2.2.2.2.1, s.2.2.2.2.2, q) ∧ Inv s := by
  obtain ⟨n, q, hs, h0, h2⟩ := set_ok x
  have hm : n % 256 = n := by omega
  unfold charset_Choice_Designate.f marqueeref05_Choice_Designate.f
  rw [hs]
  simp only [Option.bind_some, hm]
  obtain ⟨ha, hb, hc, hd, he, hf⟩ := hi
  cases q
  · exact ⟨(a, b, c, d, e, f), false, by simp, by simp, ha, hb, hc, hd, he, hf⟩
  · simp only [if_true]
    by_cases p0 : p = 0
    · exact ⟨(n, b, c, d, e, f), true, by rw [if_pos p0], by rw [if_pos p0], ⟨h0, h2⟩, hb, hc, hd, he, hf⟩
    · simp only [if_neg p0]
      by_cases p1 : p = 1
      · exact ⟨(a, n, c, d, e, f), true, by rw [if_pos p1], by rw [if_pos p1], ha, ⟨h0, h2⟩, hc, hd, he, hf⟩
      · simp only [if_neg p1]
        by_cases p2 : p = 2
        · exact ⟨(a, b, n, d, e, f), true, by rw [if_pos p2], by rw [if_pos p2], ha, hb, ⟨h0, h2⟩, hd, he, hf⟩
        · simp only [if_neg p2]
          by_cases p3 : p = 3
          · exact ⟨(a, b, c, n, e, f), true, by rw [if_pos p3], by rw [if_pos p3], ha, hb, hc, ⟨h0, h2⟩, he, hf⟩
          · simp only [if_neg p3]
            exact ⟨(a, b, c, d, e, f), false, rfl, rfl, ha, hb, hc, hd, he, hf⟩

theorem lock_ok {a b c d e f : Int} (hi : Inv (a, b, c, d, e, f)) (x : Int) :
    ∃ (s : St) (q : Bool), charset_Choice_Lock.f a b c d e f x = some (s.1, s.2.1, s.2.2.1, s.2.2.2.1, s.2.2.2.2.1, s.2.2.2.2.2, q) ∧ Ev (fun k => marqueeref05_Choice_Lock.f k a b c d e f x) (s.1, s.2.1, s.2.2.1, s.2.2.2.1, s.2.2.2.2.1, s.2.2.2.2.2, q) ∧ Inv s := by
  obtain ⟨ha, hb, hc, hd, he, hf⟩ := hi
  have step : ∀ {r} (v : Bool), (if v = true then some (a, b, c, d, e, f, false) else (if x = 14 then some (a, b, c, d, 1, f, true) else some (a, b, c, d, 0, f, true))) = some r → Ev (fun k => marqueeref05_Choice_Lock.j0 k x v a b c d e f) r := fun v h => by
    refine Ev.step (fun k => by simp only [marqueeref05_Choice_Lock.j0]; rfl) ?_
    rw [h]
    exact Ev.now _
  unfold charset_Choice_Lock.f
  simp only [marqueeref05_Choice_Lock.f]
  by_cases h1 : x = 14
  · simp only [if_pos h1]
    exact ⟨(a, b, c, d, 1, f), true, rfl, step false (by simp [h1]), ha, hb, hc, hd, .inr rfl, hf⟩
  · simp only [if_neg h1]
    by_cases h2 : x = 15
    · simp only [if_pos h2]
      exact ⟨(a, b, c, d, 0, f), true, rfl, step _ (by simp [h2]), ha, hb, hc, hd, .inl rfl, hf⟩
    · simp only [if_neg h2]
      exact ⟨(a, b, c, d, e, f), false, rfl, step _ (by simp [h2]), ha, hb, hc, hd, he, hf⟩

theorem single_ok {a b c d e f : Int} (hi : Inv (a, b, c, d, e, f)) (x : Int) :
    ∃ (s : St) (q : Bool), charset_Choice_Single.f a b c d e f x = some (s.1, s.2.1, s.2.2.1, s.2.2.2.1, s.2.2.2.2.1, s.2.2.2.2.2, q) ∧ marqueeref05_Choice_Single.f a b c d e f x = some (s.1, s.2.1, s.2.2.1, s.2.2.2.1, s.2.2.2.2.1, s.2.2.2.2.2, q) ∧ Inv s := by
  obtain ⟨ha, hb, hc, hd, he, hf⟩ := hi
  unfold charset_Choice_Single.f marqueeref05_Choice_Single.f
  by_cases h1 : x = 2
  · subst h1
    exact ⟨(a, b, c, d, e, 2), true, rfl, rfl, ha, hb, hc, hd, he, .inr (.inl rfl)⟩
  · simp only [if_neg h1]
    by_cases h2 : x = 3
    · subst h2
      exact ⟨(a, b, c, d, e, 3), true, rfl, rfl, ha, hb, hc, hd, he, .inr (.inr rfl)⟩
    · simp only [if_neg h2]
      exact ⟨(a, b, c, d, e, f), false, rfl, rfl, ha, hb, hc, hd, he, hf⟩

theorem now_ok {a b c d e f : Int} (hi : Inv (a, b, c, d, e, f)) : ∃ n, charset_Choice_Now.f a b c d e f = some n ∧ marqueeref05_Choice_Now.f a b c d e f = some n ∧ (n = 0 ∨ n = 1 ∨ n = 2 ∨ n = 3) := by
  obtain ⟨_, _, _, _, he, hf⟩ := hi
  simp only at he hf
  unfold charset_Choice_Now.f marqueeref05_Choice_Now.f
  by_cases h : f = 0
  · have hw : wrap64 e = e := by unfold wrap64; omega
    exact ⟨e, by rw [if_pos h, hw], by rw [if_neg (by omega)], by omega⟩
  · have hw : wrap64 f = f := by unfold wrap64; omega
    exact ⟨f, by rw [if_neg h, hw], by rw [if_pos (by omega)], by omega⟩

theorem map_ok {a b c d e f : Int} (hi : Inv (a, b, c, d, e, f)) (x : Int) :
    ∃ y : Int, Ev (fun k => charset_Choice_Map.f k a b c d e f x) (a, b, c, d, e, 0, y) ∧ Ev (fun k => marqueeref05_Choice_Map.f k a b c d e f x) (a, b, c, d, e, 0, y) := by
  obtain ⟨n, h1, h2, h3⟩ := now_ok hi
  obtain ⟨ha, hb, hc, hd, he, hf⟩ := hi
  simp only at ha hb hc hd
  have wa : wrap64 a = a := by unfold wrap64; omega
  have wb : wrap64 b = b := by unfold wrap64; omega
  have wc : wrap64 c = c := by unfold wrap64; omega
  have wd : wrap64 d = d := by unfold wrap64; omega
  simp only [charset_Choice_Map.f, marqueeref05_Choice_Map.f, h1, h2, Option.bind_some, wa, wb, wc, wd]
  rcases h3 with rfl | rfl | rfl | rfl
  · exact ⟨_, Ev.bind (ev_prog _ _) (Ev.now _), Ev.bind (ev_ref _ _) (Ev.now _)⟩
  · exact ⟨_, Ev.bind (ev_prog _ _) (Ev.now _), Ev.bind (ev_ref _ _) (Ev.now _)⟩
  · exact ⟨_, Ev.bind (ev_prog _ _) (Ev.now _), Ev.bind (ev_ref _ _) (Ev.now _)⟩
  · exact ⟨_, Ev.bind (ev_prog _ _) (Ev.now _), Ev.bind (ev_ref _ _) (Ev.now _)⟩

/-- Behind an act. -/
theorem ev_j3 (l : List S42) (i : Int) (q : Bool) {s : St} (hi : Inv s) (h0 : 0 ≤ i) (h1 : i < 80) (hnext : Ev (fun k => marqueelaw05_CharsetPlays.l0 k l (i + 1) s.1 s.2.1 s.2.2.1 s.2.2.2.1 s.2.2.2.2.1 s.2.2.2.2.2 s.1 s.2.1 s.2.2.1 s.2.2.2.1 s.2.2.2.2.1 s.2.2.2.2.2) true) :
    Ev (fun k => marqueelaw05_CharsetPlays.j3 k l i q q s.1 s.2.1 s.2.2.1 s.2.2.2.1 s.2.2.2.2.1 s.2.2.2.2.2 s.1 s.2.1 s.2.2.1 s.2.2.2.1 s.2.2.2.2.1 s.2.2.2.2.2) true := by
  obtain ⟨a, b, c, d, e, f⟩ := s
  obtain ⟨n, hn, hm, _⟩ := now_ok hi
  obtain ⟨ha, hb, hc, hd, he, hf⟩ := hi
  simp only at ha hb hc hd hnext ⊢
  have wa : wrap64 a = a := by unfold wrap64; omega
  have wb : wrap64 b = b := by unfold wrap64; omega
  have wc : wrap64 c = c := by unfold wrap64; omega
  have wd : wrap64 d = d := by unfold wrap64; omega
  have wi : wrap64 (i + 1) = i + 1 := by unfold wrap64; omega
  refine Ev.step (fun k => by simp only [marqueelaw05_CharsetPlays.j3]; rfl) ?_
  simp only [bne_self_eq_false, Bool.false_eq_true, if_false, charset_Choice_Sets.f, wa, wb, wc, wd, wi, Option.bind_some, beq_self_eq_true, Bool.not_true, Bool.or_false, hn, hm, if_true]
  exact hnext

theorem ev_plays (l : List S42) (d : Nat) : ∀ (i : Int) (s : St), Inv s → 0 ≤ i → i ≤ (l.length : Int) → (l.length : Int) - i = d →
    Ev (fun k => marqueelaw05_CharsetPlays.l0 k l i s.1 s.2.1 s.2.2.1 s.2.2.2.1 s.2.2.2.2.1 s.2.2.2.2.2 s.1 s.2.1 s.2.2.1 s.2.2.2.1 s.2.2.2.2.1 s.2.2.2.2.2) true := by
  have fin : ∀ (i : Int) (s : St), Ev (fun k => marqueelaw05_CharsetPlays.j1 k l i false s.1 s.2.1 s.2.2.1 s.2.2.2.1 s.2.2.2.2.1 s.2.2.2.2.2 s.1 s.2.1 s.2.2.1 s.2.2.2.1 s.2.2.2.2.1 s.2.2.2.2.2) true := fun i s => by
    refine Ev.step (fun k => by simp only [marqueelaw05_CharsetPlays.j1]; rfl) ?_
    simp only [Bool.false_eq_true, if_false]
    exact Ev.bind ev_works (Ev.now true)
  induction d with
  | zero =>
    intro i s hs h0 h1 hd
    refine Ev.step (fun k => by simp only [marqueelaw05_CharsetPlays.l0]; rfl) ?_
    simp only [if_neg (show ¬ i < (l.length : Int) by omega)]
    exact fin i s
  | succ d ih =>
    intro i s hs h0 h1 hd
    refine Ev.step (fun k => by simp only [marqueelaw05_CharsetPlays.l0]; rfl) ?_
    simp only [if_pos (show i < (l.length : Int) by omega)]
    by_cases h : i < 80
    · simp only [decide_eq_true h]
      refine Ev.step (fun k => by simp only [marqueelaw05_CharsetPlays.j1]; rfl) ?_
      simp only [if_true, if_pos h0, if_pos (show i < (l.length : Int) by omega)]
      generalize rd_T42 l i = z
      have next : ∀ (t : St), Inv t → ∀ q, Ev (fun k => marqueelaw05_CharsetPlays.j3 k l i q q t.1 t.2.1 t.2.2.1 t.2.2.2.1 t.2.2.2.2.1 t.2.2.2.2.2 t.1 t.2.1 t.2.2.1 t.2.2.2.1 t.2.2.2.2.1 t.2.2.2.2.2) true := fun t ht q =>
        ev_j3 l i q ht h0 h (ih (i + 1) t ht (by omega) (by omega) (by omega))
      have act : ∀ v : Bool, Ev (fun k => marqueelaw05_CharsetPlays.j2 k l i true (Int.tmod z.f0 8) v s.1 s.2.1 s.2.2.1 s.2.2.2.1 s.2.2.2.2.1 s.2.2.2.2.2 s.1 s.2.1 s.2.2.1 s.2.2.2.1 s.2.2.2.2.1 s.2.2.2.2.2 z.f0 z.f1 z.f2 z.f3) true := fun v => by
        refine Ev.step (fun k => by simp only [marqueelaw05_CharsetPlays.j2]; rfl) ?_
        obtain ⟨a, b, c, d, e, f⟩ := s
        cases v
        · simp only [Bool.false_eq_true, if_false]
          by_cases h2 : Int.tmod z.f0 8 = 2
          · simp only [if_pos h2]
            obtain ⟨t, q, t1, t2, ht⟩ := lock_ok hs z.f2
            simp only [t1, Option.bind_some]
            exact Ev.bind t2 (next t ht q)
          · simp only [if_neg h2]
            by_cases h3 : Int.tmod z.f0 8 = 3
            · simp only [if_pos h3]
              obtain ⟨t, q, t1, t2, ht⟩ := single_ok hs (wrap64 z.f1)
              simp only [t1, t2, Option.bind_some]
              exact next t ht q
            · simp only [if_neg h3]
              obtain ⟨y, t1, t2⟩ := map_ok hs z.f3
              refine Ev.bind t1 (Ev.bind t2 ?_)
              simp only [beq_self_eq_true]
              exact next (a, b, c, d, e, 0) ⟨hs.1, hs.2.1, hs.2.2.1, hs.2.2.2.1, hs.2.2.2.2.1, .inl rfl⟩ true
        · simp only [if_true]
          obtain ⟨t, q, t1, t2, ht⟩ := des_ok hs (wrap64 z.f1) z.f2
          simp only [t1, t2, Option.bind_some]
          exact next t ht q
      by_cases hz : Int.tmod z.f0 8 = 0
      · simp only [if_pos hz]
        exact act _
      · simp only [if_neg hz]
        exact act _
    · simp only [decide_eq_false h]
      exact fin i s

theorem CharsetPlays : charsetPlays.Said := fun l _ _ =>
  (ev_plays l l.length 0 (0, 0, 0, 0, 0, 0) ⟨⟨by decide, by decide⟩, ⟨by decide, by decide⟩, ⟨by decide, by decide⟩, ⟨by decide, by decide⟩, .inl rfl, .inl rfl⟩ (by omega) (by omega) (by omega)).rounds

end Go.Proofs.Ytkhdobhcnhaokaa.Pure
