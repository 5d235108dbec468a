/- Equality, keys of maps. No statement of the program's is proved here. -/
import Derived.Test.YtifemfnjoobiiaaRunC
import Derived.ChangeKeysEq
namespace Go.Proofs.Ytifemfnjoobiiaa.Run
open Go Go.RowKit
set_option linter.unusedVariables false
set_option linter.unusedSimpArgs false
section
variable {P : Program} {idf : FuncId → Bool}
theorem cellEq_rel {φ : Loc} {s : Nat} {x x' y y' : Value} (hx : VRel φ x x') (hy : VRel φ y y') {r : Bool} (h : cellEq s x y = some r) : cellEq s x' y' = some r := by
 unfold cellEq at h
 split at h
 ·cases hx; cases hy; exact h
 ·cases hx; cases hy; exact h
 ·cases hx; cases hy; exact h
 ·cases h
theorem eqCells_rel {φ : Loc} : ∀ {sg : List Nat} {xs xs' ys ys' : List Value}, LRel φ xs xs' → LRel φ ys ys' → ∀ {r : Bool}, eqCells sg xs ys = some r → eqCells sg xs' ys' = some r
 | [], _, _, _, _, hx, hy, r, h => by
  cases hx with
  | nil => cases hy with
   | nil => exact h
   | cons => simp [eqCells] at h
  | cons => simp [eqCells] at h
 | s :: ss, _, _, _, _, hx, hy, r, h => by
  cases hx with
  | nil => simp [eqCells] at h
  | cons hv ht => cases hy with
   | nil => simp [eqCells] at h
   | cons hw hu =>
    simp only [eqCells] at h ⊢
    split at h
    ·rename_i he
     rw [cellEq_rel hv hw he]
     exact eqCells_rel ht hu h
    ·rename_i q hq
     rw [cellEq_rel hv hw h]
     cases r
     ·rfl
     ·exact absurd h (by intro h; exact hq h)
theorem eqV_rel {φ : Loc} {ag : Bool} {sg : List Nat} {x x' y y' : Value} (hx : VRel φ x x') (hy : VRel φ y y') {r : Bool} (h : eqV ag sg x y = some r) : eqV ag sg x' y' = some r := by
 cases ag with
 | true =>
  simp only [eqV, if_true] at h ⊢
  split at h
  ·cases hx with
   | agg _ a' ha ia ho => cases hy with
    | agg _ b' hb ib hob =>
     split at h
     ·rename_i hc
      simp only
      rw [if_pos (by omega)]
      exact eqCells_rel (LRel.of_arr ha ia) (LRel.of_arr hb ib) h
     ·cases h
  ·cases h
 | false =>
  simp only [eqV, Bool.false_eq_true, if_false] at h ⊢
  exact eqCells_rel (.cons hx .nil) (.cons hy .nil) h
theorem eqCells_append : ∀ (s1 s2 : List Nat) (a1 a2 b1 b2 : List Value), a1.length = s1.length → b1.length = s1.length →
  eqCells (s1 ++ s2) (a1 ++ a2) (b1 ++ b2) = match eqCells s1 a1 b1 with | some true => eqCells s2 a2 b2 | r => r
 | [], s2, a1, a2, b1, b2, ha, hb => by
  obtain rfl := List.eq_nil_of_length_eq_zero ha
  obtain rfl := List.eq_nil_of_length_eq_zero hb
  simp [eqCells]
 | s :: ss, s2, [], a2, b1, b2, ha, hb => by simp at ha
 | s :: ss, s2, a :: a1, a2, [], b2, ha, hb => by simp at hb
 | s :: ss, s2, a :: a1, a2, b :: b1, b2, ha, hb => by
  simp only [List.cons_append, eqCells]
  cases cellEq s a b with
  | none => rfl
  | some q => cases q
              ·rfl
              ·exact eqCells_append ss s2 a1 a2 b1 b2 (by simpa using ha) (by simpa using hb)
def mkv (P : Program) (t : TypeId) (xs : List Value) : Value :=
 match aggOf P t with
 | some (some _) => .agg xs.toArray
 | _ => xs.headD undef
theorem flat_sz {d : Nat} {t : TypeId} {sg : List Nat} (h : flatSig P d t = some sg) : szOf P t = some sg.length := by
 cases d with
 | zero => simp [flatSig] at h
 | succ d =>
  simp only [flatSig, Option.bind_eq_some_iff] at h
  obtain ⟨l, _, h2⟩ := h
  split at h2
  ·rename_i hs; cases h2; exact hs
  ·cases h2
theorem part_mkv {d : Nat} {t : TypeId} {sg : List Nat} (h : flatSig P d t = some sg) {c : Array Value} {off : Nat} (hle : off + sg.length ≤ c.size) (w : World) :
  (part t c off).run P w = .ok (mkv P t ((c.toList.drop off).take sg.length)) w := by
 have hs := flat_sz h
 have hagg : ∃ a, aggOf P t = some a ∧ (∀ n, a = some n → n = sg.length) ∧ (a = none → sg.length = 1) := by
  cases d with
  | zero => simp [flatSig] at h
  | succ d =>
   simp only [flatSig, Option.bind_eq_some_iff] at h
   obtain ⟨l, h1, h2⟩ := h
   split at h2
   ·rename_i hsz
    cases h2
    unfold aggOf
    split at h1
    ·rename_i hu; cases h1; exact ⟨none, by rw [hu], by simp, fun _ => rfl⟩
    ·rename_i hu; cases h1; exact ⟨none, by rw [hu], by simp, fun _ => rfl⟩
    ·rename_i hu; cases h1; exact ⟨none, by rw [hu], by simp, fun _ => rfl⟩
    ·rename_i hu; exact ⟨some sg.length, by simp [hu, hs], fun n h => by cases h; rfl, by simp⟩
    ·rename_i hu; exact ⟨some sg.length, by simp [hu, hs], fun n h => by cases h; rfl, by simp⟩
    ·cases h1
   ·cases h2
 obtain ⟨a, ha, hn, h1⟩ := hagg
 cases a with
 | some n =>
  have := hn n rfl; subst this
  obtain ⟨h5, h6⟩ := run_agg_some ha w
  have e : (c.extract off (off + sg.length)) = ((c.toList.drop off).take sg.length).toArray := by
   apply Array.ext'; simp [List.take_drop]
  simp [part, h5, h6, mkv, ha, e]
 | none =>
  have hl := h1 rfl
  have h5 := run_agg_none ha w
  have hlt : off < c.size := by omega
  have hc : c[off]? = some c[off] := by simp [hlt]
  have : mkv P t ((c.toList.drop off).take sg.length) = c[off] := by
   simp only [mkv, ha, hl]
   rw [List.headD_eq_head?_getD, List.head?_take]
   simp [List.head?_drop, hlt]
  rw [this]
  simp [part, h5, hc]
theorem fieldsOf_eq {t : TypeId} {fs : Array Field} (hu : P.underlying t = some (.struct fs)) : P.fieldsOf t = fs := by simp [Program.fieldsOf, hu]
theorem eq_fields {d D : Nat} (ih : ∀ (t : TypeId) (sg : List Nat), flatSig P d t = some sg → ∀ (w : World) (xs ys : List Value), xs.length = sg.length → ys.length = sg.length → ∀ (r : Bool), eqCells sg xs ys = some r → (Op.equalIn D t (mkv P t xs) (mkv P t ys)).run P w = .ok r w)
  (xs ys : Array Value) (w : World) : ∀ (fs : List Field) (o : Nat) (sg : List Nat), sigT (flatSig P d) fs o = some sg → o + sg.length ≤ xs.size → o + sg.length ≤ ys.size → ∀ (r : Bool),
   eqCells sg ((xs.toList.drop o).take sg.length) ((ys.toList.drop o).take sg.length) = some r → (Op.eqFields D xs ys fs).run P w = .ok r w
 | [], o, sg, h, _, _, r, he => by
  simp [sigT] at h; subst h
  simp [eqCells] at he; subst he
  simp [Op.eqFields]
 | f :: fs, o, sg, h, hx, hy, r, he => by
  simp only [sigT] at h
  split at h
  ·rename_i hc
   obtain ⟨hn, ho⟩ := hc
   simp only [Option.bind_eq_some_iff, Option.map_eq_some_iff] at h
   obtain ⟨l, hl, rest, hr, rfl⟩ := h
   simp only [List.length_append] at hx hy he
   have hpx := part_mkv hl (c := xs) (off := o) (by omega) w
   have hpy := part_mkv hl (c := ys) (off := o) (by omega) w
   have split : ∀ c : Array Value, o + (l.length + rest.length) ≤ c.size → (c.toList.drop o).take (l.length + rest.length) = (c.toList.drop o).take l.length ++ (c.toList.drop (o + l.length)).take rest.length := by
    intro c hc
    rw [List.take_add, List.drop_drop]
   rw [split xs (by omega), split ys (by omega), eqCells_append _ _ _ _ _ _ (by simp; omega) (by simp; omega)] at he
   have h1 : ∃ q, eqCells l ((xs.toList.drop o).take l.length) ((ys.toList.drop o).take l.length) = some q := by
    cases hq : eqCells l ((xs.toList.drop o).take l.length) ((ys.toList.drop o).take l.length) with
    | none => rw [hq] at he; cases he
    | some q => exact ⟨q, rfl⟩
   obtain ⟨q, hq⟩ := h1
   have hrun := ih f.type l hl w _ _ (by simp; omega) (by simp; omega) q hq
   rw [hq] at he
   subst ho
   simp only [Op.eqFields, hn, ne_eq, not_false_eq_true, if_true, Sem.run_bind, hpx, hpy, Result.andThen_ok, hrun]
   cases q with
   | false => simp only at he; cases he; simp
   | true =>
    simp only [Bool.not_true, Bool.false_eq_true, if_false]
    exact eq_fields ih xs ys w fs _ rest hr (by omega) (by omega) r he
  ·cases h
theorem flatten_rep_length (n : Nat) (l : List Nat) : ((List.replicate n l).flatten).length = n * l.length := by simp [List.length_flatten]
theorem eq_items {D : Nat} {e : TypeId} {l : List Nat} {d : Nat} (hl : flatSig P d e = some l) (ih : ∀ (w : World) (xs ys : List Value), xs.length = l.length → ys.length = l.length → ∀ (r : Bool), eqCells l xs ys = some r → (Op.equalIn D e (mkv P e xs) (mkv P e ys)).run P w = .ok r w)
  (xs ys : Array Value) (w : World) : ∀ (m i : Nat), (i + m) * l.length ≤ xs.size → (i + m) * l.length ≤ ys.size → ∀ (r : Bool),
   eqCells (List.replicate m l).flatten ((xs.toList.drop (i * l.length)).take (m * l.length)) ((ys.toList.drop (i * l.length)).take (m * l.length)) = some r → (Op.eqItems D e l.length xs ys (List.range' i m)).run P w = .ok r w
 | 0, i, _, _, r, he => by
  simp [eqCells] at he; subst he
  simp [Op.eqItems]
 | m + 1, i, hx, hy, r, he => by
  have e1 : (i + (m + 1)) * l.length = i * l.length + l.length + m * l.length := by rw [Nat.add_mul, Nat.succ_mul]; omega
  have e2 : (m + 1) * l.length = l.length + m * l.length := by rw [Nat.succ_mul]; omega
  have e3 : (i + 1) * l.length = i * l.length + l.length := Nat.succ_mul _ _
  rw [e1] at hx hy
  have hpx := part_mkv hl (c := xs) (off := i * l.length) (by omega) w
  have hpy := part_mkv hl (c := ys) (off := i * l.length) (by omega) w
  have split : ∀ c : Array Value, (c.toList.drop (i * l.length)).take ((m + 1) * l.length) = (c.toList.drop (i * l.length)).take l.length ++ (c.toList.drop ((i + 1) * l.length)).take (m * l.length) := by
   intro c
   rw [e2, e3, List.take_add, List.drop_drop]
  rw [split xs, split ys, List.replicate_succ, List.flatten_cons, eqCells_append _ _ _ _ _ _ (by simp; omega) (by simp; omega)] at he
  have h1 : ∃ q, eqCells l ((xs.toList.drop (i * l.length)).take l.length) ((ys.toList.drop (i * l.length)).take l.length) = some q := by
   cases hq : eqCells l ((xs.toList.drop (i * l.length)).take l.length) ((ys.toList.drop (i * l.length)).take l.length) with
   | none => rw [hq] at he; cases he
   | some q => exact ⟨q, rfl⟩
  obtain ⟨q, hq⟩ := h1
  have hrun := ih w _ _ (by simp; omega) (by simp; omega) q hq
  rw [hq] at he
  simp only [List.range'_succ, Op.eqItems, Sem.run_bind, hpx, hpy, Result.andThen_ok, hrun]
  cases q with
  | false => simp only at he; cases he; simp
  | true =>
   simp only [Bool.not_true, Bool.false_eq_true, if_false]
   exact eq_items hl ih xs ys w m (i + 1) (by rw [Nat.add_mul, e3]; omega) (by rw [Nat.add_mul, e3]; omega) r he
theorem eq_flat : ∀ (d D : Nat), d ≤ D → ∀ (t : TypeId) (sg : List Nat), flatSig P d t = some sg → ∀ (w : World) (xs ys : List Value), xs.length = sg.length → ys.length = sg.length → ∀ (r : Bool), eqCells sg xs ys = some r →
  (Op.equalIn D t (mkv P t xs) (mkv P t ys)).run P w = .ok r w
 | 0, _, _, _, _, h, _, _, _, _, _, _, _ => by simp [flatSig] at h
 | d + 1, 0, hd, _, _, _, _, _, _, _, _, _, _ => by omega
 | d + 1, D + 1, hd, t, sg, h, w, xs, ys, hx, hy, r, he => by
  have hsz := flat_sz h
  simp only [flatSig, Option.bind_eq_some_iff] at h
  obtain ⟨l, h1, h2⟩ := h
  rw [if_pos (by
   split at h2
   ·assumption
   ·cases h2)] at h2
  cases h2
  have one : ∀ (k : Nat), [k] = sg → (∀ x y : Value, cellEq k x y = some r → (Op.equalIn (D + 1) t x y).run P w = .ok r w) → aggOf P t = some none → (Op.equalIn (D + 1) t (mkv P t xs) (mkv P t ys)).run P w = .ok r w := by
   intro k hk hrun ha
   subst hk
   match xs, ys, hx, hy with
   | [x], [y], _, _ =>
    simp only [mkv, ha, List.headD_cons]
    refine hrun x y ?_
    simp only [eqCells] at he
    split at he
    ·rename_i hc; cases he; exact hc
    ·exact he
  split at h1
  ·rename_i k hu
   cases h1
   refine one 0 rfl (fun x y hxy => ?_) (by simp [aggOf, hu])
   unfold cellEq at hxy
   split at hxy <;> first | (rename_i h0; cases h0; done) | skip
   ·split at hxy
    ·rename_i hjk; subst hjk; cases hxy; exact run_equalIn_int w D t _ k _ _ hu
    ·cases hxy
   ·cases hxy
  ·rename_i hu
   cases h1
   refine one 1 rfl (fun x y hxy => ?_) (by simp [aggOf, hu])
   unfold cellEq at hxy
   split at hxy <;> first | (rename_i h0; cases h0; done) | skip
   ·cases hxy; exact run_equalIn_bool' w D t _ _ hu
   ·cases hxy
  ·rename_i hu
   cases h1
   refine one 2 rfl (fun x y hxy => ?_) (by simp [aggOf, hu])
   unfold cellEq at hxy
   split at hxy <;> first | (rename_i h0; cases h0; done) | skip
   ·cases hxy; exact run_equalIn_string w D t _ _ hu
   ·cases hxy
  ·rename_i fs hu
   split at h1
   ·cases h1
   ·rename_i hst
    have ha : aggOf P t = some (some sg.length) := by simp [aggOf, hu, hsz]
    simp only [mkv, ha]
    rw [run_equalIn_struct w D t _ _ (by rw [fieldsOf_eq hu]; exact hu) (by simpa using hst), fieldsOf_eq hu]
    exact eq_fields (eq_flat d D (by omega)) xs.toArray ys.toArray w fs.toList 0 sg h1 (by simp; omega) (by simp; omega) r (by
     have e1 : xs.take sg.length = xs := List.take_of_length_le (by omega)
     have e2 : ys.take sg.length = ys := List.take_of_length_le (by omega)
     simpa [e1, e2] using he)
  ·rename_i n e hu
   simp only [Option.map_eq_some_iff] at h1
   obtain ⟨l, hl, rfl⟩ := h1
   have ha : aggOf P t = some (some ((List.replicate n l).flatten).length) := by simp only [aggOf, hu, hsz, Option.map_some]
   obtain ⟨i, hi, _⟩ := sz_info (flat_sz hl)
   simp only [mkv, ha]
   rw [run_equalIn_array w D _ _ hu hi, cellsOf_sz (flat_sz hl), List.range_eq_range']
   rw [flatten_rep_length] at hx hy
   exact eq_items hl (eq_flat d D (by omega) e l hl) xs.toArray ys.toArray w n 0 (by simp; omega) (by simp; omega) r (by
    have e1 : xs.take (n * l.length) = xs := List.take_of_length_le (by omega)
    have e2 : ys.take (n * l.length) = ys := List.take_of_length_le (by omega)
    simpa [e1, e2] using he)
  ·cases h1
theorem eq_sig {t : TypeId} {ag : Bool} {sg : List Nat} (h : sigOf P t = some (ag, sg)) {x y : Value} {r : Bool} (he : eqV ag sg x y = some r) (w : World) : (Op.equal t x y).run P w = .ok r w := by
 unfold sigOf at h
 simp only [Option.bind_eq_some_iff, Option.map_eq_some_iff, Prod.mk.injEq] at h
 obtain ⟨l, hl, a, ha, h1, rfl⟩ := h
 have key := eq_flat 20 10000 (by omega) t l hl w
 cases a with
 | some n =>
  simp only [Option.isSome_some] at h1
  subst h1
  simp only [eqV, if_true] at he
  split at he
  ·rename_i a b
   split at he
   ·rename_i hc
    have := key a.toList b.toList (by simpa using hc.1) (by simpa using hc.2) r he
    simpa [mkv, ha, Op.equal, Op.maxDepth] using this
   ·cases he
  ·cases he
 | none =>
  simp only [Option.isSome_none] at h1
  subst h1
  simp only [eqV, Bool.false_eq_true, if_false] at he
  have hl1 : l.length = 1 := by
   match l, he with
   | [_], _ => rfl
   | [], he => simp [eqCells] at he
   | a :: b :: c, he =>
    simp only [eqCells] at he
    exfalso
    have hsz := flat_sz hl
    simp only [flatSig, Option.bind_eq_some_iff] at hl
    obtain ⟨l', h1, h2⟩ := hl
    have hl' : l' = a :: b :: c := by
     split at h2
     ·cases h2; rfl
     ·cases h2
    subst hl'
    split at h1
    ·cases h1
    ·cases h1
    ·cases h1
    ·rename_i hu; simp [aggOf, hu, hsz] at ha
    ·rename_i hu; simp [aggOf, hu, hsz] at ha
    ·cases h1
  have := key [x] [y] (by simp [hl1]) (by simp [hl1]) r he
  simpa [mkv, ha, Op.equal, Op.maxDepth] using this
theorem checkKey_flat (em : Bool) : ∀ (d D : Nat), d ≤ D → ∀ (t : TypeId) (sg : List Nat), flatSig P d t = some sg → ∀ (w : World) (xs : List Value), xs.length = sg.length → (Instr.checkKey em D t (mkv P t xs)).run P w = .ok () w
 | 0, _, _, _, _, h, _, _, _ => by simp [flatSig] at h
 | d + 1, 0, hd, _, _, _, _, _, _ => by omega
 | d + 1, D + 1, hd, t, sg, h, w, xs, hx => by
  have hsz := flat_sz h
  simp only [flatSig, Option.bind_eq_some_iff] at h
  obtain ⟨l, h1, h2⟩ := h
  rw [if_pos (by
   split at h2
   ·assumption
   ·cases h2)] at h2
  cases h2
  split at h1
  ·rename_i k hu; simp [Instr.checkKey, run_underlying hu]
  ·rename_i hu; simp [Instr.checkKey, run_underlying hu]
  ·rename_i hu; simp [Instr.checkKey, run_underlying hu]
  ·rename_i fs hu
   split at h1
   ·cases h1
   ·have ha : aggOf P t = some (some sg.length) := by simp [aggOf, hu, hsz]
    simp only [mkv, ha, Instr.checkKey, Sem.run_bind, run_underlying hu, Result.andThen_ok]
    rw [← Array.forIn_toList]
    have key : ∀ (fs : List Field) (o : Nat) (sg : List Nat), sigT (flatSig P d) fs o = some sg → o + sg.length ≤ xs.length →
      (forIn fs PUnit.unit (fun f _ => do
       if f.name ≠ "_" then Instr.checkKey em D f.type (← part f.type xs.toArray f.offset)
       pure (ForInStep.yield PUnit.unit)) : Sem PUnit).run P w = .ok PUnit.unit w := by
     intro fs
     induction fs with
     | nil => intro o sg _ _; simp
     | cons f fs ih =>
      intro o sg h hle
      simp only [sigT] at h
      split at h
      ·rename_i hc
       obtain ⟨hn, ho⟩ := hc
       simp only [Option.bind_eq_some_iff, Option.map_eq_some_iff] at h
       obtain ⟨l, hl, rest, hr, rfl⟩ := h
       simp only [List.length_append] at hle
       subst ho
       have hp := part_mkv hl (c := xs.toArray) (off := f.offset) (by simp; omega) w
       have hk := checkKey_flat em d D (by omega) f.type l hl w _ (by simp; omega : ((xs.toArray.toList.drop f.offset).take l.length).length = l.length)
       have ih' := ih _ rest hr (by omega)
       simp only [List.forIn_cons, Sem.run_bind, hn, ne_eq, not_false_eq_true, if_true, Result.andThen_ok, hp, hk, Sem.run_pure]
       exact ih'
      ·cases h
    have := key fs.toList 0 sg h1 (by omega)
    simp at this
    simp [this]
  ·rename_i n e hu
   simp only [Option.map_eq_some_iff] at h1
   obtain ⟨l, hl, rfl⟩ := h1
   have ha : aggOf P t = some (some ((List.replicate n l).flatten).length) := by simp only [aggOf, hu, hsz, Option.map_some]
   have hs := flat_sz hl
   rw [flatten_rep_length] at hx
   simp only [mkv, ha, Instr.checkKey, Sem.run_bind, run_underlying hu, Result.andThen_ok]
   simp only [Std.Legacy.Range.forIn_eq_forIn_range', Std.Legacy.Range.size, Nat.sub_zero, Nat.add_one_sub_one, Nat.div_one]
   have key : ∀ (m i : Nat), i + m ≤ n →
     (forIn (List.range' i m) PUnit.unit (fun i _ => do
      Instr.checkKey em D e (← part e xs.toArray (i * (← sizeOf e)))
      pure (ForInStep.yield PUnit.unit)) : Sem PUnit).run P w = .ok PUnit.unit w := by
    intro m
    induction m with
    | zero => intro i _; simp
    | succ m ih =>
     intro i hi
     have hle : i * l.length + l.length ≤ n * l.length := by
      have := Nat.mul_le_mul_right l.length (show i + 1 ≤ n by omega)
      rwa [Nat.succ_mul] at this
     have hp := part_mkv hl (c := xs.toArray) (off := i * l.length) (by simp; omega) w
     have hk := checkKey_flat em d D (by omega) e l hl w _ (by simp; omega : ((xs.toArray.toList.drop (i * l.length)).take l.length).length = l.length)
     have ih' := ih (i + 1) (by omega)
     simp only [List.range'_succ, List.forIn_cons, Sem.run_bind, run_sz hs w, Result.andThen_ok, hp, hk, Sem.run_pure]
     exact ih'
   have := key n 0 (by omega)
   simp at this
   simp [this]
  ·cases h1
theorem checkKey_sig {t : TypeId} {ag : Bool} {sg : List Nat} (h : sigOf P t = some (ag, sg)) {k : Value} (hk : keyOk ag sg k = true) (em : Bool) (w : World) : (Instr.checkKey em 10000 t k).run P w = .ok () w := by
 unfold sigOf at h
 simp only [Option.bind_eq_some_iff, Option.map_eq_some_iff, Prod.mk.injEq] at h
 obtain ⟨l, hl, a, ha, h1, rfl⟩ := h
 cases a with
 | some n =>
  simp only [Option.isSome_some] at h1
  subst h1
  unfold keyOk at hk
  simp only [if_true] at hk
  split at hk
  ·rename_i a
   have := checkKey_flat em 20 10000 (by omega) t l hl w a.toList (by simpa using hk)
   simpa [mkv, ha] using this
  ·cases hk
 | none =>
  have := checkKey_flat em 20 10000 (by omega) t l hl w (k :: List.replicate (l.length - 1) undef)
  by_cases h0 : l.length = 0
  ·exfalso
   have hsz := flat_sz hl
   simp only [flatSig, Option.bind_eq_some_iff] at hl
   obtain ⟨l', h1', h2⟩ := hl
   have hl' : l' = l := by
    split at h2
    ·cases h2; rfl
    ·cases h2
   subst hl'
   split at h1'
   ·cases h1'; simp at h0
   ·cases h1'; simp at h0
   ·cases h1'; simp at h0
   ·rename_i hu; simp [aggOf, hu, hsz] at ha
   ·rename_i hu; simp [aggOf, hu, hsz] at ha
   ·cases h1'
  ·have := this (by simp; omega)
   simpa [mkv, ha] using this
theorem findK_rel {φ : Loc} {ag : Bool} {sg : List Nat} {k k' : Value} (hk : VRel φ k k') {es es' : List MapEntry} (he : ERel φ es es') : ∀ {i : Nat} {r : Option (Nat × Value)}, findK ag sg k es i = some r →
  (r = none ∧ findK ag sg k' es' i = some none) ∨ ∃ j v v', r = some (j, v) ∧ findK ag sg k' es' i = some (some (j, v')) ∧ VRel φ v v' := by
 induction he with
 | nil => intro i r h; simp [findK] at h; subst h; exact .inl ⟨rfl, rfl⟩
 | cons hkey hval _ ih =>
  intro i r h
  simp only [findK] at h ⊢
  split at h
  ·rename_i hq
   rw [eqV_rel hk hkey hq]
   cases h
   exact .inr ⟨_, _, _, rfl, rfl, hval⟩
  ·rename_i hq
   rw [eqV_rel hk hkey hq]
   exact ih h
  ·cases h
theorem findAsking_sig {t : TypeId} {ag : Bool} {sg : List Nat} (h : sigOf P t = some (ag, sg)) (k : Value) (w : World) : ∀ (es : List MapEntry) (i : Nat) (r : Option (Nat × Value)), findK ag sg k es i = some r →
  (Instr.findAsking t k es i).run P w = .ok r w
 | [], i, r, he => by simp [findK] at he; subst he; simp [Instr.findAsking]
 | e :: es, i, r, he => by
  simp only [findK] at he
  split at he
  ·rename_i hq
   have := eq_sig h hq w
   cases he
   simp [Instr.findAsking, this]
  ·rename_i hq
   have := eq_sig h hq w
   have ih := findAsking_sig h k w es (i + 1) r he
   simp [Instr.findAsking, this, ih]
  ·cases he
theorem findNow_sig {kd : TypeDesc} {sg : List Nat} {k : Value} (hs : ∀ (y : Value) (q : Bool), eqV false sg k y = some q → Instr.sameNow kd k y = some q) : ∀ (es : List MapEntry) (i : Nat) (r : Option (Nat × Value)), findK false sg k es i = some r →
  Instr.findNow kd k es i = some r
 | [], i, r, he => by simp [findK] at he; subst he; rfl
 | e :: es, i, r, he => by
  simp only [findK] at he
  split at he
  ·rename_i hq; cases he; simp [Instr.findNow, hs _ _ hq]
  ·rename_i hq; simp [Instr.findNow, hs _ _ hq, findNow_sig hs es (i + 1) r he]
  ·cases he
theorem eqV_one {s : Nat} {x y : Value} {q : Bool} (h : eqV false [s] x y = some q) : cellEq s x y = some q := by
 simp only [eqV, Bool.false_eq_true, if_false, eqCells] at h
 split at h
 ·rename_i hc; cases h; exact hc
 ·exact h
theorem findKey_sig {t : TypeId} {ag : Bool} {sg : List Nat} (h : sigOf P t = some (ag, sg)) {k : Value} {es : List MapEntry} {r : Option (Nat × Value)} (he : findK ag sg k es 0 = some r) (w : World) :
  (Instr.findKey t k es).run P w = .ok r w := by
 have hask := findAsking_sig h k w es 0 r he
 have hsig := h
 unfold sigOf at h
 simp only [Option.bind_eq_some_iff, Option.map_eq_some_iff, Prod.mk.injEq] at h
 obtain ⟨l, hl, a, ha, h1, rfl⟩ := h
 have hsz := flat_sz hl
 simp only [flatSig, Option.bind_eq_some_iff] at hl
 obtain ⟨l', h1', h2⟩ := hl
 have hl' : l' = l := by
  split at h2
  ·cases h2; rfl
  ·cases h2
 subst hl'
 split at h1'
 ·rename_i kk hu
  cases h1'
  have ha' : a = none := by simp [aggOf, hu] at ha; exact ha.symm
  subst ha'
  cases h1
  have := findNow_sig (kd := .int kk) (sg := [0]) (k := k) (fun y q hq => by
   have := eqV_one hq
   unfold cellEq at this
   split at this <;> first | (rename_i h0; cases h0; done) | skip
   ·split at this
    ·rename_i hj; subst hj; cases this; simp [Instr.sameNow]
    ·cases this
   ·cases this) es 0 r he
  simp [Instr.findKey, run_underlying hu, this]
 ·rename_i hu
  cases h1'
  have ha' : a = none := by simp [aggOf, hu] at ha; exact ha.symm
  subst ha'
  cases h1
  have := findNow_sig (kd := .bool) (sg := [1]) (k := k) (fun y q hq => by
   have := eqV_one hq
   unfold cellEq at this
   split at this <;> first | (rename_i h0; cases h0; done) | skip
   ·cases this; simp [Instr.sameNow]
   ·cases this) es 0 r he
  simp [Instr.findKey, run_underlying hu, this]
 ·rename_i hu
  cases h1'
  have ha' : a = none := by simp [aggOf, hu] at ha; exact ha.symm
  subst ha'
  cases h1
  have := findNow_sig (kd := .string) (sg := [2]) (k := k) (fun y q hq => by
   have := eqV_one hq
   unfold cellEq at this
   split at this <;> first | (rename_i h0; cases h0; done) | skip
   ·cases this; simp [Instr.sameNow, beq_toListBytes]
   ·cases this) es 0 r he
  simp [Instr.findKey, run_underlying hu, this]
 ·rename_i fs hu
  cases es with
  | nil => simp [findK] at he; subst he; simp [Instr.findKey, run_underlying hu, Instr.findNow]
  | cons e es => simp [Instr.findKey, run_underlying hu, Instr.findNow, Instr.sameNow, hask]
 ·rename_i n e hu
  cases es with
  | nil => simp [findK] at he; subst he; simp [Instr.findKey, run_underlying hu, Instr.findNow]
  | cons e es => simp [Instr.findKey, run_underlying hu, Instr.findNow, Instr.sameNow, hask]
 ·cases h1'
theorem cellEq_true {s : Nat} {x y : Value} (h : cellEq s x y = some true) : x = y ∧ ∀ n, Instr.sameBits n x x = true := by
 unfold cellEq at h
 split at h
 ·split at h
  ·rename_i hj
   subst hj
   simp at h
   subst h
   exact ⟨rfl, fun n => by cases n <;> simp [Instr.sameBits]⟩
  ·cases h
 ·simp at h; subst h; exact ⟨rfl, fun n => by cases n <;> simp [Instr.sameBits]⟩
 ·rename_i a b
  have h' : a.toList = b.toList := by simpa using h
  have : a = b := by
   rw [ByteArray.toList_eq, ByteArray.toList_eq] at h'
   obtain ⟨⟨x⟩⟩ := a
   obtain ⟨⟨y⟩⟩ := b
   simpa using h'
  subst this
  have hs : (a == a) = true := by rw [beq_toListBytes]; simp
  exact ⟨rfl, fun n => by cases n <;> simp [Instr.sameBits, hs]⟩
 ·cases h
theorem eqCells_true : ∀ {sg : List Nat} {xs ys : List Value}, eqCells sg xs ys = some true → xs = ys ∧ ∀ n, (xs.zip xs).all (fun p => Instr.sameBits n p.1 p.2) = true
 | [], [], [], _ => ⟨rfl, fun n => rfl⟩
 | [], [], _ :: _, h => by simp [eqCells] at h
 | [], _ :: _, _, h => by simp [eqCells] at h
 | _ :: _, [], _, h => by simp [eqCells] at h
 | _ :: _, _ :: _, [], h => by simp [eqCells] at h
 | s :: ss, x :: xs, y :: ys, h => by
  simp only [eqCells] at h
  split at h
  ·rename_i hq
   obtain ⟨rfl, h1⟩ := cellEq_true hq
   obtain ⟨rfl, h2⟩ := eqCells_true h
   exact ⟨rfl, fun n => by simp [h1 n]; simpa using h2 n⟩
  ·rename_i q hq; exact absurd h (by intro h; exact hq h)
theorem eqV_true {ag : Bool} {sg : List Nat} {x y : Value} (h : eqV ag sg x y = some true) : Instr.sameBits 10000 y x = true := by
 cases ag with
 | true =>
  simp only [eqV, if_true] at h
  split at h
  ·rename_i a b
   split at h
   ·obtain ⟨e, h1⟩ := eqCells_true h
    have : a = b := by cases a; cases b; simpa using e
    subst this
    have := h1 9999
    simp only [Instr.sameBits, beq_self_eq_true, Bool.true_and]
    exact this
   ·cases h
  ·cases h
 | false =>
  simp only [eqV, Bool.false_eq_true, if_false] at h
  obtain ⟨e, h1⟩ := eqCells_true h
  simp only [List.cons.injEq, and_true] at e
  subst e
  have := h1 10000
  simpa using this
theorem findK_some {ag : Bool} {sg : List Nat} {k : Value} : ∀ {es : List MapEntry} {i j : Nat} {v : Value}, findK ag sg k es i = some (some (j, v)) → i ≤ j ∧ ∃ e, es[j - i]? = some e ∧ e.val = v ∧ eqV ag sg k e.key = some true
 | [], i, j, v, h => by simp [findK] at h
 | e :: es, i, j, v, h => by
  simp only [findK] at h
  split at h
  ·rename_i hq
   simp only [Option.some.injEq, Prod.mk.injEq] at h
   obtain ⟨rfl, rfl⟩ := h
   exact ⟨Nat.le_refl _, e, by simp, rfl, hq⟩
  ·obtain ⟨h1, e', h2, h3, h4⟩ := findK_some h
   refine ⟨by omega, e', ?_, h3, h4⟩
   have : j - i = (j - (i + 1)) + 1 := by omega
   rw [this]; simpa using h2
  ·cases h
end
end Go.Proofs.Ytifemfnjoobiiaa.Run
