/- The law CharsetPlaces: run on whatever it is given, it answers true. -/
import Derived.Test.YtkhdobhcnhaokaaPlayed
namespace Go.Proofs.Ytkhdobhcnhaokaa.Run
open Go Go.RowKit
set_option linter.unusedVariables false
set_option linter.unusedSimpArgs false

theorem wpIf.tt {A B : Prop} (h : A) : wpIf (.bool true) A B := h
theorem wpIf.ff {A B : Prop} (h : B) : wpIf (.bool false) A B := h

theorem des_W' {M : Mem} {Q : Value → Mem → Prop} {x D : Ch} {p r : Int} {is : Bool} (e : x.desF p r = (D, is)) (h : Q (.tuple #[D.val, .bool is]) M) : W funs chE (.func (.func n_charset_Choice_Designate) #[] #[]) [x.val, .int .i64 p, .int .u8 r] M Q :=
  des_W (by rw [e]; exact h)

theorem eqV_ch (x y : Ch) : eqV true [0, 0, 0, 0, 0, 0] x.val y.val = some (decide (x = y)) := by
  obtain ⟨a, b, c, d, e, f⟩ := x
  obtain ⟨a', b', c', d', e', f'⟩ := y
  simp only [eqV, Ch.val, ch, eqCells, cellEq, Ch.mk.injEq]
  by_cases h1 : a = a'
  · by_cases h2 : b = b'
    · by_cases h3 : c = c'
      · by_cases h4 : d = d'
        · by_cases h5 : e = e'
          · by_cases h6 : f = f'
            · simp [h1, h2, h3, h4, h5, h6]
            · simp [h1, h2, h3, h4, h5, h6]
          · simp [h1, h2, h3, h4, h5]
        · simp [h1, h2, h3, h4]
      · simp [h1, h2, h3]
    · simp [h1, h2]
  · simp [h1]
theorem neq_ch (x y : Ch) : binV .neq 2 [0, 0, 0, 0, 0, 0] x.val y.val = some (.bool (decide (x ≠ y))) := by
  have := eqV_ch x y
  show (if (2 : Nat) = 2 then (eqV true [0, 0, 0, 0, 0, 0] x.val y.val).bind (negIf .neq) else none) = _
  rw [if_pos rfl, this]
  by_cases h : x = y <;> simp [negIf, h]
theorem eql_ch (x y : Ch) : binV .eql 2 [0, 0, 0, 0, 0, 0] x.val y.val = some (.bool (decide (x = y))) := by
  have := eqV_ch x y
  show (if (2 : Nat) = 2 then (eqV true [0, 0, 0, 0, 0, 0] x.val y.val).bind (negIf .eql) else none) = _
  rw [if_pos rfl, this]
  by_cases h : x = y <;> simp [negIf, h]

theorem mapUpd_ok {M : Mem} {r : Nat} {es : List MapEntry} {clock : Nat} {ag : Bool} {sg : List Nat} {k x : Value} {f : Option (Nat × Value)} (hg : M.get r = some (.map es clock)) (hb : M.base ≤ r) (hk : keyOk ag sg k = true) (hf : findK ag sg k es 0 = some f) :
    opSem (.mapUpd ag sg (.const (.map (some r))) (.const k) (.const x)) [] M = some (undef, M.set r (mapPut es clock k x f)) := by
  simp only [opSem, ev, hg, if_pos (And.intro hb hk), hf, Option.map_some]
def lkRes (z : Value) : Option (Nat × Value) → Value
  | some (_, v) => .tuple #[v, .bool true]
  | none => .tuple #[z, .bool false]
theorem lookup_ok {M : Mem} {r : Nat} {es : List MapEntry} {clock : Nat} {ag : Bool} {sg : List Nat} {k z res : Value} {f : Option (Nat × Value)} (hg : M.get r = some (.map es clock)) (hk : keyOk ag sg k = true) (hf : findK ag sg k es 0 = some f) (hr : lkRes z f = res) :
    opSem (.lookup z true ag sg (.const (.map (some r))) (.const k)) [] M = some (res, M) := by
  simp only [opSem, ev, hg, hk, Bool.true_eq_false, if_false, hf, Option.map_some, ← hr]
  cases f <;> rfl

theorem desF_yes {x : Ch} {p r : Int} (h : (setF r).2 = true) (h0 : 0 ≤ p) (h3 : p ≤ 3) : ∃ D, x.desF p r = (D, true) ∧ (x.ok → D.ok) ∧ D.nowF = x.nowF ∧ D.desF p r = (D, true) ∧
    (∀ i : Int, 0 ≤ i → i < 4 → D.get i = if i = p then (setF r).1 else x.get i) := by
  have hs := setF_ok r
  have hp : p = 0 ∨ p = 1 ∨ p = 2 ∨ p = 3 := by omega
  rcases hp with rfl | rfl | rfl | rfl
  · refine ⟨{ x with a := (setF r).1 }, by unfold Ch.desF; rw [if_pos ⟨h, by omega, by omega⟩]; rfl, ?_, rfl, by unfold Ch.desF; rw [if_pos ⟨h, by omega, by omega⟩]; rfl, ?_⟩
    · rintro ⟨o1, o2, o3, o4, o5, o6⟩
      exact ⟨hs, o2, o3, o4, o5, o6⟩
    · intro i hi0 hi4
      have hi : i = 0 ∨ i = 1 ∨ i = 2 ∨ i = 3 := by omega
      rcases hi with rfl | rfl | rfl | rfl <;> simp [Ch.get]
  · refine ⟨{ x with b := (setF r).1 }, by unfold Ch.desF; rw [if_pos ⟨h, by omega, by omega⟩]; rfl, ?_, rfl, by unfold Ch.desF; rw [if_pos ⟨h, by omega, by omega⟩]; rfl, ?_⟩
    · rintro ⟨o1, o2, o3, o4, o5, o6⟩
      exact ⟨o1, hs, o3, o4, o5, o6⟩
    · intro i hi0 hi4
      have hi : i = 0 ∨ i = 1 ∨ i = 2 ∨ i = 3 := by omega
      rcases hi with rfl | rfl | rfl | rfl <;> simp [Ch.get]
  · refine ⟨{ x with c := (setF r).1 }, by unfold Ch.desF; rw [if_pos ⟨h, by omega, by omega⟩]; rfl, ?_, rfl, by unfold Ch.desF; rw [if_pos ⟨h, by omega, by omega⟩]; rfl, ?_⟩
    · rintro ⟨o1, o2, o3, o4, o5, o6⟩
      exact ⟨o1, o2, hs, o4, o5, o6⟩
    · intro i hi0 hi4
      have hi : i = 0 ∨ i = 1 ∨ i = 2 ∨ i = 3 := by omega
      rcases hi with rfl | rfl | rfl | rfl <;> simp [Ch.get]
  · refine ⟨{ x with d := (setF r).1 }, by unfold Ch.desF; rw [if_pos ⟨h, by omega, by omega⟩]; rfl, ?_, rfl, by unfold Ch.desF; rw [if_pos ⟨h, by omega, by omega⟩]; rfl, ?_⟩
    · rintro ⟨o1, o2, o3, o4, o5, o6⟩
      exact ⟨o1, o2, o3, hs, o5, o6⟩
    · intro i hi0 hi4
      have hi : i = 0 ∨ i = 1 ∨ i = 2 ∨ i = 3 := by omega
      rcases hi with rfl | rfl | rfl | rfl <;> simp [Ch.get]
theorem desF_no {x : Ch} {p r : Int} (h : ¬((setF r).2 = true ∧ 0 ≤ p ∧ p ≤ 3)) : x.desF p r = (x, false) := by
  unfold Ch.desF; rw [if_neg h]

def setsAt (x : Ch) (i : Int) : Int := if i = 0 then x.a else if i = 1 then x.b else if i = 2 then x.c else x.d
theorem setsAt_get (x : Ch) {i : Int} (h0 : 0 ≤ i) (h4 : i < 4) : setsAt x i = x.get i := by
  have hi : i = 0 ∨ i = 1 ∨ i = 2 ∨ i = 3 := by omega
  rcases hi with rfl | rfl | rfl | rfl <;> rfl
theorem idx_sets (x : Ch) {i : Int} (h0 : 0 ≤ i) (h4 : i < 4) (M : Mem) : opSem (.idxA 4 none 1 (.const x.setsV) (.const (.int .i64 i))) [] M = some (.int .i64 (x.get i), M) := by
  have hi : i = 0 ∨ i = 1 ∨ i = 2 ∨ i = 3 := by omega
  rcases hi with rfl | rfl | rfl | rfl <;> rfl

/-- the places, one behind the other -/
abbrev placesI (p r w : Int) (is : Bool) (b6 b15 : Nat) (x D : Ch) : Nat → LS → Prop := fun k s => ∃ (i : Int) (M' : Mem), s = law05_CharsetPlaces_l2_s (.int .i8 p) (.int .u8 r) (.bool is) (.int .i64 w) (.int .i64 i) b6 x.val.cells.toList b15 D.val.cells.toList [] M' ∧ 0 ≤ i ∧ i ≤ 4 ∧ k = (4 - i).toNat

theorem places_rest {p r w : Int} (hp : -128 ≤ p ∧ p ≤ 127) {is : Bool} {b6 b15 : Nat} {x D : Ch} (hx : x.ok) (hD : D.ok) (hget : is = true → ∀ i : Int, 0 ≤ i → i < 4 → D.get i = if i = p then w else x.get i) (hag : ∃ i2, D.desF p r = (D, i2))
    {Q : Value → Mem → Prop} (q : ∀ M', Q (.bool true) M') {t : LS}
    (ht : placesI p r w is b6 b15 x D 4 (t.forget law05_CharsetPlaces_l2_m)) (hl : t.L.length = 2) :
    LoopW (wpC funs chE none law05_CharsetPlaces_l2) t (blockK 0 (seqK (fun s => wpC funs chE none law05_CharsetPlaces_c1 s (retK mf7 Q)) (retK mf7 Q))) := by
  refine ⟨law05_CharsetPlaces_l2_m, placesI p r w is b6 b15 x D, ⟨4, ht⟩, ?_⟩
  rintro k s ⟨i, M', rfl, h0, h4, rfl⟩
  refine law05_CharsetPlaces_l2_wp (I := placesI p r w is b6 b15 x D) ?_
  have stop : ∀ {y : List LV} (M' : Mem) , wpC funs chE none law05_CharsetPlaces_c1 ⟨y, [⟨b6, x.val.cells.toList, 32⟩, ⟨b15, D.val.cells.toList, 32⟩], [], M'⟩ (retK mf7 Q) → blockK 0 (seqK (fun s => wpC funs chE none law05_CharsetPlaces_c1 s (retK mf7 Q)) (retK mf7 Q)) (.exit 0) ⟨y, [⟨b6, x.val.cells.toList, 32⟩, ⟨b15, D.val.cells.toList, 32⟩], [], M'⟩ := fun M' h => blockK.hit h
  obtain ⟨i2, hD2⟩ := hag
  have fin : ∀ (M' : Mem), LGetN D.val.cells.toList 0 6 (fun v1 =>
      (∃ v2, opSem (.convI .i64 (.const (.int .i8 p))) [] M' = some (v2, M') ∧
          (W funs chE (.func (.func n_charset_Choice_Designate) #[] #[]) [v1, v2, .int .u8 r] M' (fun r3 M4 =>
            (KeepB [b6, b15] M' M4 ∧
              (∃ v5, opSem (.extract (.const r3) 0) [] M4 = some (v5, M4) ∧
                (∃ v6, opSem (.extract (.const r3) 1) [] M4 = some (v6, M4) ∧
                  (notTup (.agg #[(.int .u8 0), (.int .u8 0), (.int .u8 0), (.int .u8 0), (.int .u8 0), (.int .u8 0)]) = true ∧ ∀ (b7 : Nat) (M8 : Mem), b7 = M4.size → M8 = M4.push (.cells [(.int .u8 0), (.int .u8 0), (.int .u8 0), (.int .u8 0), (.int .u8 0), (.int .u8 0)] 32 true) →
                    (((Value.cells v5).size = 6 ∧ notTup v5 = true ∧ 0 + 6 ≤ 6) ∧ ∀ (M9 : Mem), M9 = M8.set b7 (.cells (splice [(.int .u8 0), (.int .u8 0), (.int .u8 0), (.int .u8 0), (.int .u8 0), (.int .u8 0)] 0 (Value.cells v5).toList) 32 true) →
                        (LGetN (splice [(.int .u8 0), (.int .u8 0), (.int .u8 0), (.int .u8 0), (.int .u8 0), (.int .u8 0)] 0 (Value.cells v5).toList) 0 6 (fun v10 =>
                            (LGetN D.val.cells.toList 0 6 (fun v11 =>
                              (∃ v12, binV .eql 2 [0, 0, 0, 0, 0, 0] v10 v11 = some v12 ∧ (Q v12 M9))))))))))))))) := by
    intro M'
    refine LGetN.as D.val (by exact Nat.le_refl 6) rfl ?_
    refine step_conv (i64_ok (by omega) (by omega)) ?_
    refine des_W' hD2 ⟨KeepB.refl _ _, _, rfl, _, rfl, rfl, fun b7 M8 _ _ => ⟨⟨rfl, rfl, by decide⟩, fun M9 _ => ?_⟩⟩
    refine LGetN.as D.val (by exact Nat.le_refl 6) rfl ?_
    refine LGetN.as D.val (by exact Nat.le_refl 6) rfl ?_
    refine ⟨_, eql_ch D D, ?_⟩
    rw [decide_eq_true rfl]
    exact q _
  refine step_lss (wpIf.dec (fun h1 => ?_) (fun h1 => ?_))
  rotate_left
  · exact stop _ (law05_CharsetPlaces_c1_wp (fin _))
  cases is with
  | false => exact wpIf.ff (stop _ (law05_CharsetPlaces_c1_wp (fin _)))
  | true =>
    have hg := hget rfl i h0 h1
    have next : ∀ M'', ∃ j, j < (4 - i).toNat ∧ placesI p r w true b6 b15 x D j (law05_CharsetPlaces_l2_s (.int .i8 p) (.int .u8 r) (.bool true) (.int .i64 w) (.int .i64 (i + 1)) b6 x.val.cells.toList b15 D.val.cells.toList [] M'') := by
      intro M''
      exact ⟨(4 - (i + 1)).toNat, by omega, i + 1, M'', rfl, by omega, by omega, rfl⟩
    refine wpIf.tt (LGetN.as x.val (by exact Nat.le_refl 6) rfl (sets_W hx ⟨KeepB.refl _ _, _, idx_sets x h0 h1 _, step_conv (i64_ok (by omega) (by omega)) (step_eql (wpIf.dec (fun c => ?_) (fun c => ?_)))⟩))
    · refine LGetN.as D.val (by exact Nat.le_refl 6) rfl (sets_W hD ⟨KeepB.refl _ _, _, idx_sets D h0 h1 _, step_neq (wpIf.dec (fun d => ?_) (fun d => step_add (by omega) (by omega) (next _)))⟩)
      rw [hg, if_pos c] at d
      exact absurd rfl d
    · refine LGetN.as D.val (by exact Nat.le_refl 6) rfl (sets_W hD ⟨KeepB.refl _ _, _, idx_sets D h0 h1 _, step_neq (wpIf.dec (fun d => ?_) (fun d => step_add (by omega) (by omega) (next _)))⟩)
      rw [hg, if_neg c] at d
      exact absurd rfl d

theorem KeepB.set {bs : List Nat} {M : Mem} {r : Nat} (hr : r < M.size) (h : ∀ b ∈ bs, b ≠ r) (o : AObj) : KeepB bs M (M.set r o) := fun b hb _ => by
  rw [Mem.get_set _ _ _ hr, if_neg (h b hb)]

def es3 : List MapEntry := [⟨.int .u8 66, .int .i64 0, 0⟩, ⟨.int .u8 48, .int .i64 1, 1⟩, ⟨.int .u8 65, .int .i64 2, 2⟩]
theorem find3 (r : Int) : ∃ f, findK false [0] (.int .u8 r) es3 0 = some f ∧ lkRes (.int .i64 0) f = .tuple #[.int .i64 (setF r).1, .bool (setF r).2] := by
  by_cases h1 : r = 66
  · subst h1; exact ⟨_, rfl, rfl⟩
  by_cases h2 : r = 48
  · subst h2; exact ⟨_, rfl, rfl⟩
  by_cases h3 : r = 65
  · subst h3; exact ⟨_, rfl, rfl⟩
  refine ⟨none, ?_, by simp [lkRes, setF, h1, h2, h3]⟩
  have e1 : (r == 66) = false := by simpa using h1
  have e2 : (r == 48) = false := by simpa using h2
  have e3 : (r == 65) = false := by simpa using h3
  simp only [es3, findK, eqV, eqCells, cellEq, if_true, e1, e2, e3, Bool.false_eq_true, if_false]

theorem bool_neq (a b : Bool) : binV .neq 1 [] (.bool a) (.bool b) = some (.bool (a != b)) := by cases a <;> cases b <;> rfl

set_option maxHeartbeats 1000000 in
theorem charsetPlaces_W {M : Mem} (hM : M.base ≤ M.size) {v : Value} {L : List Act4} (h : Sl M v L) (hL : ∀ a ∈ L, a.ok) {p r : Int} (hp : -128 ≤ p ∧ p ≤ 127) {Q : Value → Mem → Prop} (q : ∀ M', Q (.bool true) M') :
    W funs chE (.func (.func n_law05_CharsetPlaces) #[] #[]) [v, .int .i8 p, .int .u8 r] M Q := by
  obtain ⟨ad, cap, rfl, hcap, hs⟩ := id h
  refine law05_CharsetPlaces_wp hM (works_W ⟨_, rfl, wpIf.ff (played_W hM h hL fun M5 e5 => ?_)⟩)
  have hx := playF_ok L
  generalize playF L = x at hx ⊢
  obtain ⟨D, is, hD, hok, hnow, hag, hget, hisx⟩ : ∃ D is, x.desF p r = (D, is) ∧ D.ok ∧ D.nowF = x.nowF ∧ (∃ i2, D.desF p r = (D, i2)) ∧ (is = true → ∀ i : Int, 0 ≤ i → i < 4 → D.get i = if i = p then (setF r).1 else x.get i) ∧
      ((is = true ∧ (setF r).2 = true ∧ 0 ≤ p ∧ p ≤ 3) ∨ (is = false ∧ D = x ∧ ¬((setF r).2 = true ∧ 0 ≤ p ∧ p ≤ 3))) := by
    by_cases hk : (setF r).2 = true ∧ 0 ≤ p ∧ p ≤ 3
    · obtain ⟨D, h1, h2, h3, h4, h5⟩ := desF_yes (x := x) hk.1 hk.2.1 hk.2.2
      exact ⟨D, true, h1, h2 hx, h3, ⟨_, h4⟩, fun _ => h5, .inl ⟨rfl, hk⟩⟩
    · exact ⟨x, false, desF_no hk, hx, rfl, ⟨_, desF_no hk⟩, (fun hh => by cases hh), .inr ⟨rfl, rfl, hk⟩⟩
  refine ⟨rfl, fun b6 M7 hb6 hM7 => ⟨⟨rfl, rfl, by decide⟩, fun M8 hM8 => LGetN.as x.val (by exact Nat.le_refl 6) rfl ?_⟩⟩
  have s8 : M8.size = M5.size + 1 := by rw [hM8, hM7]; rfl
  have b8 : M8.base = M.base := by rw [hM8, hM7]; exact e5.base
  refine step_conv (i64_ok (by omega) (by omega)) (des_W' hD ⟨KeepB.refl _ _, _, rfl, _, rfl, rfl, fun b15 M16 hb15 hM16 => ⟨⟨rfl, rfl, by decide⟩, fun M17 hM17 => ?_⟩⟩)
  have s17 : M17.size = M5.size + 2 := by rw [hM17, hM16]; simp [s8]
  have b17 : M17.base = M.base := by rw [hM17, hM16]; exact b8
  have s5 := e5.size
  refine ⟨.map (some M17.size), M17.push (.map [] 0), rfl, (Ext.push _ _).keep _, ?_⟩
  have g19 : (M17.push (.map [] 0)).get M17.size = some (.map [] 0) := by rw [Mem.get_push, if_pos rfl]
  generalize hM19 : M17.push (.map [] 0) = M19 at g19 ⊢
  have s19 : M19.size = M17.size + 1 := by rw [← hM19]; rfl
  have b19 : M19.base = M.base := by rw [← hM19]; exact b17
  have kb : ∀ b ∈ [b6, b15], b ≠ M17.size := by
    intro b hb
    simp only [List.mem_cons, List.not_mem_nil, or_false] at hb
    omega
  refine ⟨_, _, mapUpd_ok (f := none) g19 (by omega) rfl rfl, KeepB.set (by omega) kb _, ?_⟩
  have g21 : (M19.set M17.size (mapPut [] 0 (.int .u8 66) (.int .i64 0) none)).get M17.size = some (.map [⟨.int .u8 66, .int .i64 0, 0⟩] 1) := by rw [Mem.get_set _ _ _ (by omega), if_pos rfl]; rfl
  generalize hM21 : M19.set M17.size (mapPut [] 0 (.int .u8 66) (.int .i64 0) none) = M21 at g21 ⊢
  have s21 : M21.size = M17.size + 1 := by rw [← hM21]; exact s19
  have b21 : M21.base = M.base := by rw [← hM21]; exact b19
  refine ⟨_, _, mapUpd_ok (f := none) g21 (by omega) rfl rfl, KeepB.set (by omega) kb _, ?_⟩
  have g23 : (M21.set M17.size (mapPut [⟨.int .u8 66, .int .i64 0, 0⟩] 1 (.int .u8 48) (.int .i64 1) none)).get M17.size = some (.map [⟨.int .u8 66, .int .i64 0, 0⟩, ⟨.int .u8 48, .int .i64 1, 1⟩] 2) := by rw [Mem.get_set _ _ _ (by omega), if_pos rfl]; rfl
  generalize hM23 : M21.set M17.size (mapPut [⟨.int .u8 66, .int .i64 0, 0⟩] 1 (.int .u8 48) (.int .i64 1) none) = M23 at g23 ⊢
  have s23 : M23.size = M17.size + 1 := by rw [← hM23]; exact s21
  have b23 : M23.base = M.base := by rw [← hM23]; exact b21
  refine ⟨_, _, mapUpd_ok (f := none) g23 (by omega) rfl rfl, KeepB.set (by omega) kb _, ?_⟩
  have g25 : (M23.set M17.size (mapPut [⟨.int .u8 66, .int .i64 0, 0⟩, ⟨.int .u8 48, .int .i64 1, 1⟩] 2 (.int .u8 65) (.int .i64 2) none)).get M17.size = some (.map es3 3) := by rw [Mem.get_set _ _ _ (by omega), if_pos rfl]; rfl
  generalize M23.set M17.size (mapPut [⟨.int .u8 66, .int .i64 0, 0⟩, ⟨.int .u8 48, .int .i64 1, 1⟩] 2 (.int .u8 65) (.int .i64 2) none) = M25 at g25 ⊢
  obtain ⟨f, hf1, hf2⟩ := find3 r
  refine ⟨_, lookup_ok g25 rfl hf1 hf2, _, rfl, _, rfl, ?_⟩
  clear hf1 hf2 g25 g23 g21 g19
  rcases hisx with ⟨rfl, hk, h0, h3⟩ | ⟨rfl, rfl, hk⟩
  · rw [hk]
    refine wpIf.tt (step_geq (wpIf.dec (fun _ => step_leq ?_) (fun hh => absurd h0 hh)))
    rw [decide_eq_true h3]
    refine ⟨_, rfl, wpIf.ff ⟨_, rfl, wpIf.ff (wpIf.tt (LGetN.as D.val (by exact Nat.le_refl 6) rfl (now_W hok ⟨KeepB.refl _ _, LGetN.as x.val (by exact Nat.le_refl 6) rfl (now_W hx ⟨KeepB.refl _ _, step_neq ?_⟩)⟩)))⟩⟩
    refine wpIf.dec (fun hh => absurd hnow hh) (fun _ => ?_)
    exact law05_CharsetPlaces_c0_wp (places_rest hp hx hok hget hag q ⟨0, _, rfl, by omega, by omega, rfl⟩ rfl)
  · cases hr : (setF r).2 with
    | true =>
      refine wpIf.tt (step_geq (wpIf.dec (fun h0 => step_leq ?_) (fun h0 => ?_)))
      · rw [decide_eq_false (fun h3 => hk ⟨hr, h0, h3⟩)]
        refine ⟨_, rfl, wpIf.ff ⟨_, rfl, wpIf.tt (LGetN.as D.val (by exact Nat.le_refl 6) rfl (LGetN.as D.val (by exact Nat.le_refl 6) rfl ⟨_, neq_ch D D, wpIf.dec (fun hh => absurd rfl hh) (fun _ => wpIf.ff ?_)⟩))⟩⟩
        exact law05_CharsetPlaces_c0_wp (places_rest hp hx hok hget hag q ⟨0, _, rfl, by omega, by omega, rfl⟩ rfl)
      · refine ⟨_, rfl, wpIf.ff ⟨_, rfl, wpIf.tt (LGetN.as D.val (by exact Nat.le_refl 6) rfl (LGetN.as D.val (by exact Nat.le_refl 6) rfl ⟨_, neq_ch D D, wpIf.dec (fun hh => absurd rfl hh) (fun _ => wpIf.ff ?_)⟩))⟩⟩
        exact law05_CharsetPlaces_c0_wp (places_rest hp hx hok hget hag q ⟨0, _, rfl, by omega, by omega, rfl⟩ rfl)
    | false =>
      refine wpIf.ff ?_
      refine ⟨_, rfl, wpIf.ff ⟨_, rfl, wpIf.tt (LGetN.as D.val (by exact Nat.le_refl 6) rfl (LGetN.as D.val (by exact Nat.le_refl 6) rfl ⟨_, neq_ch D D, wpIf.dec (fun hh => absurd rfl hh) (fun _ => wpIf.ff ?_)⟩))⟩⟩
      exact law05_CharsetPlaces_c0_wp (places_rest hp hx hok hget hag q ⟨0, _, rfl, by omega, by omega, rfl⟩ rfl)
end Go.Proofs.Ytkhdobhcnhaokaa.Run
