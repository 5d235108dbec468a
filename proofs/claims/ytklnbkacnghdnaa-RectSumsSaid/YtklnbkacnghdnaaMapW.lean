/- A loop over a map: what is to be shown, so that it ends, and ends so, whichever order is drawn. No statement of the program's is proved here. -/
import Derived.Test.YtklnbkacnghdnaaRunW
namespace Go.Proofs.Ytklnbkacnghdnaa.Run
open Go Go.RowKit
set_option linter.unusedVariables false
set_option linter.unusedSimpArgs false
def MCode.dsts : MCode → List Tmp
  | .region _ ops => ops.filterMap (·.dst)
  | .seq a b | .cond _ a b => a.dsts ++ b.dsts
  | .block _ c | .loop c => c.dsts
  | _ => []
def MCode.noMap : MCode → Bool
  | .seq a b | .cond _ a b => a.noMap && b.noMap
  | .block _ c | .loop c => c.noMap
  | .loopM _ _ _ _ _ => false
  | _ => true
def SameT (ds : List Tmp) (t t' : List Value) : Prop := t'.length = t.length ∧ ∀ i, i ∉ ds → t'.getD i undef = t.getD i undef
theorem SameT.refl (ds : List Tmp) (t : List Value) : SameT ds t t := ⟨rfl, fun _ _ => rfl⟩
theorem SameT.trans {ds : List Tmp} {t t' t'' : List Value} (h : SameT ds t t') (k : SameT ds t' t'') : SameT ds t t'' := ⟨k.1.trans h.1, fun i hi => (k.2 i hi).trans (h.2 i hi)⟩
theorem SameT.sub {ds es : List Tmp} {t t' : List Value} (h : SameT ds t t') (hs : ∀ i ∈ ds, i ∈ es) : SameT es t t' := ⟨h.1, fun i hi => h.2 i fun hd => hi (hs i hd)⟩
theorem SameT.set {ds : List Tmp} (t : List Value) {d : Tmp} (hd : d ∈ ds) (v : Value) : SameT ds t (t.set d v) :=
  ⟨List.length_set, fun i hi => by
    have : d ≠ i := fun e => hi (e ▸ hd)
    simp [List.getD, List.getElem?_set, this]⟩
section
variable {call : CallF}
theorem runOps_same : ∀ {ops : List MOper} {t t' : List Value} {M M' : Mem}, runOps call ops t M = some (t', M') → SameT (ops.filterMap (·.dst)) t t'
  | [], t, t', M, M', h => by simp only [runOps, Option.some.injEq, Prod.mk.injEq] at h; rw [h.1]; exact .refl _ _
  | o :: os, t, t', M, M', h => by
    simp only [runOps] at h
    split at h
    · rename_i v M1 _
      have h1 := runOps_same h
      have h2 : SameT ((o :: os).filterMap (·.dst)) t (putT t o.dst v) := by
        cases hd : o.dst with
        | none => exact .refl _ _
        | some d => exact .set t (by simp [hd]) _
      refine h2.trans (h1.sub fun i hi => ?_)
      rw [List.filterMap_cons]
      split
      · exact hi
      · exact .tail _ hi
    · cases h
theorem exec_same {n : Nat} {ar : Option Nat} : ∀ (c : MCode), c.noMap = true → ∀ {s s' : St} {x : XE}, exec call n ar c s = some (x, s') → SameT c.dsts s.t s'.t := by
  intro c
  induction c with
  | skip => intro _ s s' x h; simp only [exec, Option.some.injEq, Prod.mk.injEq] at h; rw [← h.2]; exact .refl _ _
  | exit id => intro _ s s' x h; simp only [exec, Option.some.injEq, Prod.mk.injEq] at h; rw [← h.2]; exact .refl _ _
  | ret => intro _ s s' x h; simp only [exec, Option.some.injEq, Prod.mk.injEq] at h; rw [← h.2]; exact .refl _ _
  | region d ops =>
    intro _ s s' x h
    simp only [exec] at h
    split at h
    · rename_i h1
      simp only [Option.some.injEq, Prod.mk.injEq] at h
      rw [← h.2]
      exact runOps_same h1
    · cases h
  | seq a b iha ihb =>
    intro hm s s' x h
    simp only [MCode.noMap, Bool.and_eq_true] at hm
    simp only [exec] at h
    split at h
    · rename_i s1 h1
      exact ((iha hm.1 h1).sub fun i hi => List.mem_append_left _ hi).trans ((ihb hm.2 h).sub fun i hi => List.mem_append_right _ hi)
    · exact (iha hm.1 h).sub fun i hi => List.mem_append_left _ hi
  | cond x a b iha ihb =>
    intro hm s s' x h
    simp only [MCode.noMap, Bool.and_eq_true] at hm
    simp only [exec] at h
    split at h
    · exact (iha hm.1 h).sub fun i hi => List.mem_append_left _ hi
    · exact (ihb hm.2 h).sub fun i hi => List.mem_append_right _ hi
    · cases h
  | block id c ih =>
    intro hm s s' x h
    simp only [MCode.noMap] at hm
    simp only [exec] at h
    split at h
    · rename_i h1
      split at h <;> cases h <;> exact ih hm h1
    · exact ih hm h
  | loop c ih =>
    intro hm s s' x h
    simp only [MCode.noMap] at hm
    simp only [exec] at h
    have key : ∀ (k : Nat) (s : St), loopN (exec call n ar c) k s = some (x, s') → SameT c.dsts s.t s'.t := by
      intro k
      induction k with
      | zero => intro s h; simp [loopN] at h
      | succ k ihk =>
        intro s h
        simp only [loopN] at h
        split at h
        · rename_i h1
          exact (ih hm h1).trans (ihk _ h)
        · exact ih hm h
    exact key n s h
  | loopM => intro hm; cases hm
  | rangeFunc f ps as bd _ _ =>
    intro _ s s' x h
    simp only [exec] at h
    have he : ∀ {l : Nat} {ds : List Nat} {M : Mem}, endRange l s.t ds M = some (x, s') → s'.t = s.t := by
      intro l ds M h
      unfold endRange at h
      split at h
      · split at h
        · simp only [Option.some.injEq, Prod.mk.injEq] at h
          rw [← h.2]
        · cases h
      · cases h
    split at h
    · split at h
      · split at h
        · rw [he h]; exact .refl _ _
        · cases h
      · split at h
        · split at h
          · rw [he h]; exact .refl _ _
          · cases h
        · cases h
    · cases h
theorem collect_all {n0 : Nat} {post : St → Prop} {f : Nat → Nat → MapEntry → Option (List St)} : ∀ (es : List MapEntry), (∀ e ∈ es, ∃ n l, (∀ n' m', n ≤ n' → n ≤ m' → f n' m' e = some l) ∧ l ≠ [] ∧ ∀ x ∈ l, post x) →
    ∃ n l, (∀ n' m', n ≤ n' → n ≤ m' → collect (f n' m') es = some l) ∧ (es ≠ [] → l ≠ []) ∧ ∀ x ∈ l, post x
  | [], _ => ⟨0, [], fun _ _ _ _ => rfl, fun h => absurd rfl h, fun x h => by cases h⟩
  | e :: es, H => by
    obtain ⟨n1, l1, h1, h2, h3⟩ := H e (.head _)
    obtain ⟨n2, l2, k1, k2, k3⟩ := collect_all (n0 := n0) es fun e he => H e (.tail _ he)
    refine ⟨max n1 n2, l1 ++ l2, fun n' m' hn hm => ?_, fun _ h => h2 (List.append_eq_nil_iff.1 h).1, fun x hx => ?_⟩
    · simp only [collect, h1 n' m' (by omega) (by omega), k1 n' m' (by omega) (by omega), Option.bind_some, Option.map_some]
    · rcases List.mem_append.1 hx with h | h
      · exact h3 x h
      · exact k3 x h
end
theorem mapLeft_push {seen : Array Nat} {es : List MapEntry} {e : MapEntry} (he : e ∈ mapLeft seen es) : (mapLeft (seen.push e.born) es).length < (mapLeft seen es).length := by
  unfold mapLeft at he ⊢
  obtain ⟨h1, h2⟩ := List.mem_filter.1 he
  clear he
  induction es with
  | nil => cases h1
  | cons x es ih =>
    have le : ∀ es : List MapEntry, (es.filter fun e' => !(seen.push e.born).contains e'.born).length ≤ (es.filter fun e' => !seen.contains e'.born).length := by
      intro es
      induction es with
      | nil => exact Nat.le_refl _
      | cons y ys ihy =>
        simp only [List.filter_cons]
        by_cases c : seen.contains y.born = true
        · have c' : (seen.push e.born).contains y.born = true := by simp at c ⊢; exact .inl c
          simp only [c, c', Bool.not_true, Bool.false_eq_true, if_false]; exact ihy
        · simp only [c, Bool.not_false, if_true]
          split
          · simp only [List.length_cons]; omega
          · simp only [List.length_cons]; omega
    simp only [List.filter_cons]
    by_cases hx : x = e
    · subst hx
      have c' : (seen.push x.born).contains x.born = true := by simp
      simp only [c', Bool.not_true, Bool.false_eq_true, if_false, h2, if_true, List.length_cons]
      have := le es
      omega
    · have h1' : e ∈ es := by
        cases h1 with
        | head => exact absurd rfl hx
        | tail _ h => exact h
      have := ih h1'
      by_cases c : seen.contains x.born = true
      · have c' : (seen.push e.born).contains x.born = true := by simp at c ⊢; exact .inl c
        simp only [c, c', Bool.not_true, Bool.false_eq_true, if_false]; exact this
      · simp only [c, Bool.not_false, if_true]
        split
        · simp only [List.length_cons]; omega
        · simp only [List.length_cons]; omega
def outT (t : List LV) (ds : List Tmp) (acc : List (Tmp × Value)) : List LV := acc.foldl (fun t p => t.set p.1 (.v p.2)) (ds.foldl (fun t i => t.set i .any) t)
section
variable {F : Funs} {E : Orac}
def enterL (nx ok : Tmp) (r m clock : Nat) (seen : Array Nat) (S : LS) (e : MapEntry) : LS :=
  ⟨(S.t.set nx (.v (.tuple #[.bool true, e.key, e.val]))).set ok (.v (.bool true)), S.L, S.ds, S.M.set r (.miterL m clock (seen.push e.born) clock)⟩
structure MapInv (s : LS) (it : Tmp) (r m clock : Nat) (es : List MapEntry) (seen : Array Nat) (S : LS) : Prop where
  it : S.t.getD it (.v undef) = .v (.pointer (some ⟨r, 0, none⟩))
  iter : S.M.get r = some (.miterL m clock seen clock)
  map : S.M.get m = some (.map es clock)
  base : S.M.base ≤ r
  ds : S.ds = s.ds
  L : S.L = s.L
  old : ∀ b, b < s.M.size → b ≠ r → S.M.get b = s.M.get b
theorem map_key {ar : Option Nat} {it nx ok : Tmp} {c : MCode} {s : LS} {r m clock : Nat} {es : List MapEntry} (hborn : ∀ e ∈ es, e.born < clock) (hnm : c.noMap = true) (I : Array Nat → LS → Prop)
    (inv : ∀ seen S, I seen S → MapInv s it r m clock es seen S)
    (step : ∀ seen S e, I seen S → e ∈ mapLeft seen es → wpC F E ar c (enterL nx ok r m clock seen S e) (fun x S' => x = .normal ∧ I (seen.push e.born) S')) (t0 : List Value) (hlen : nx < t0.length ∧ ok < t0.length) :
    ∀ (k : Nat) (seen : Array Nat) (S : LS) (q : St), (mapLeft seen es).length = k → Fine S q → I seen S → SameT (nx :: ok :: c.dsts) t0 q.t →
      ∃ n l, (∀ n' m', n ≤ n' → n ≤ m' → mapAll (exec (callN F E n') n' ar c) it nx ok m' q = some l) ∧ l ≠ [] ∧
        ∀ f ∈ l, ∃ seen' S' q', f = mapOver nx ok q' ∧ Fine S' q' ∧ I seen' S' ∧ mapLeft seen' es = [] ∧ SameT (nx :: ok :: c.dsts) t0 q'.t ∧ (seen' = seen → q' = q) := by
  intro k
  induction k using Nat.strongRecOn with
  | _ k ih =>
    intro seen S q hk hf hI hsame
    have V := inv seen S hI
    have hit : iterAt q.t q.M it = some (r, .miterL m clock seen clock) := by
      unfold iterAt
      have h1 := hf.rel.get it
      rw [V.it] at h1
      rcases h1 with h1 | h1
      · cases h1
      · have h2 : q.t.getD it undef = .pointer (some ⟨r, 0, none⟩) := h1
        rw [h2]
        simp only [hf.mem, V.iter, Option.map_some]
    have hmm : q.M.get m = some (.map es clock) := by rw [hf.mem]; exact V.map
    have hcond : q.M.base ≤ r ∧ (∀ e ∈ es, e.born < clock) ∧ clock ≤ clock ∧ nx < q.t.length ∧ ok < q.t.length := ⟨by rw [hf.mem]; exact V.base, hborn, Nat.le_refl _, by rw [hsame.1]; exact hlen.1, by rw [hsame.1]; exact hlen.2⟩
    cases hml : mapLeft seen es with
    | nil =>
      refine ⟨0, [mapOver nx ok q], fun n' m' _ _ => ?_, by simp, fun f h => ?_⟩
      · cases m' <;> simp only [mapAll, mapHere, hit, hmm, if_pos hcond, hml]
      · rw [List.mem_singleton.1 h]
        exact ⟨seen, S, q, rfl, hf, hI, hml, hsame, fun _ => rfl⟩
    | cons e0 l0 =>
      have each : ∀ e ∈ e0 :: l0, ∃ n l, (∀ n' m', n ≤ n' → n ≤ m' → (match exec (callN F E n') n' ar c (mapEnter nx ok r m clock clock seen q e) with | some (.normal, s') => mapAll (exec (callN F E n') n' ar c) it nx ok m' s' | _ => none) = some l) ∧ l ≠ [] ∧
          ∀ f ∈ l, ∃ seen' S' q', f = mapOver nx ok q' ∧ Fine S' q' ∧ I seen' S' ∧ mapLeft seen' es = [] ∧ SameT (nx :: ok :: c.dsts) t0 q'.t ∧ (seen' = seen → q' = q) := by
        intro e he
        rw [← hml] at he
        have hlt : r < S.M.size := Mem.lt_of_get V.iter
        have hfe : Fine (enterL nx ok r m clock seen S e) (mapEnter nx ok r m clock clock seen q e) := by
          refine ⟨hf.own.step (MStep.set V.base hlt _) fun b hb _ => ?_, (hf.fit.set (x := .v _) trivial _).set (x := .v _) trivial _, (hf.rel.set (.inr rfl) _).set (.inr rfl) _, hf.ds, ?_⟩
          · obtain ⟨lb, hlb, rfl⟩ := List.mem_map.1 hb
            show (S.M.set r _).get lb.b = S.M.get lb.b
            rw [Mem.get_set _ _ _ hlt, if_neg fun e => by
              have := (hf.own.has lb hlb).1
              rw [e, V.iter] at this; cases this]
          · show q.M.set r _ = S.M.set r _
            rw [hf.mem]
        obtain ⟨n, x, s1, h1, S1, hf1, rfl, hI1⟩ := wpC_sound ar c hfe (step seen S e hI he)
        have hs1 : SameT (nx :: ok :: c.dsts) t0 s1.t := by
          refine (hsame.trans ?_).trans ((exec_same c hnm h1).sub fun i hi => .tail _ (.tail _ hi))
          exact (SameT.set q.t (.head _) _).trans (.set _ (.tail _ (.head _)) _)
        obtain ⟨n2, l, h2, h3, h4⟩ := ih _ (by rw [← hk]; exact mapLeft_push he) (seen.push e.born) S1 s1 rfl hf1 hI1 hs1
        refine ⟨max n n2, l, fun n' m' hn hm => ?_, h3, fun f hfl => ?_⟩
        · have := exec_mono (callN_mono F E (show n ≤ n' by omega)) (show n ≤ n' by omega) ar c h1
          rw [this]
          exact h2 n' m' (by omega) (by omega)
        · obtain ⟨seen', S', q', g1, g2, g3, g4, g5, g6⟩ := h4 f hfl
          refine ⟨seen', S', q', g1, g2, g3, g4, g5, fun es' => ?_⟩
          exfalso
          rw [es', hml] at g4; cases g4
      obtain ⟨n, l, h1, h2, h3⟩ := collect_all (n0 := 0) (e0 :: l0) each
      refine ⟨n + 1, l, fun n' m' hn hm => ?_, h2 (by simp), h3⟩
      obtain ⟨m'', rfl⟩ : ∃ m'', m' = m'' + 1 := ⟨m' - 1, by omega⟩
      simp only [mapAll, mapHere, hit, hmm, if_pos hcond, hml]
      exact h1 n' m'' (by omega) (by omega)
theorem getD_set2 {t : List Value} {nx ok i : Tmp} {a b : Value} : ((t.set nx a).set ok b).getD i undef = if i = ok ∧ ok < t.length then b else if i = nx ∧ nx < t.length then a else t.getD i undef := by
  simp only [List.getD, List.getElem?_set, List.length_set]
  by_cases h1 : ok = i
  · subst h1
    by_cases h2 : ok < t.length
    · simp [h2]
    · have h3 : t[ok]? = none := List.getElem?_eq_none (Nat.le_of_not_lt h2)
      by_cases h4 : ok = nx
      · subst h4; simp [h2, h3]
      · simp [h2, h3, h4]
  · by_cases h5 : nx = i
    · subst h5
      by_cases h6 : nx < t.length
      · simp [h1, h6, Ne.symm h1]
      · have h3 : t[nx]? = none := List.getElem?_eq_none (Nat.le_of_not_lt h6)
        simp [h1, h6, h3, Ne.symm h1]
    · simp [h1, h5, Ne.symm h1, Ne.symm h5]
theorem any_get (d : LV) (i : Tmp) : ∀ (ds : List Tmp) (t : List LV), (ds.foldl (fun t i => t.set i .any) t).getD i d = .any ∨ (i ∉ ds ∨ t.length ≤ i) ∧ (ds.foldl (fun t i => t.set i .any) t).getD i d = t.getD i d
  | [], t => .inr ⟨.inl (by simp), rfl⟩
  | j :: ds, t => by
    simp only [List.foldl_cons]
    rcases any_get d i ds (t.set j .any) with h | ⟨h1, h2⟩
    · exact .inl h
    · rw [h2]
      by_cases hj : j = i
      · subst hj
        by_cases hl : j < t.length
        · left; simp [List.getD, List.getElem?_set, hl]
        · right
          refine ⟨.inr (Nat.le_of_not_lt hl), ?_⟩
          simp [List.getD, List.getElem?_set, hl]
      · right
        refine ⟨?_, by simp [List.getD, List.getElem?_set, hj]⟩
        rcases h1 with h1 | h1
        · exact .inl fun h => by
            cases h with
            | head => exact hj rfl
            | tail _ h => exact h1 h
        · exact .inr (by simpa using h1)
theorem acc_get (d : LV) (i : Tmp) : ∀ (acc : List (Tmp × Value)) (t : List LV), (acc.foldl (fun t p => t.set p.1 (.v p.2)) t).getD i d = t.getD i d ∨ ∃ p ∈ acc, p.1 = i ∧ i < t.length ∧ (acc.foldl (fun t p => t.set p.1 (.v p.2)) t).getD i d = .v p.2
  | [], t => .inl rfl
  | q :: acc, t => by
    simp only [List.foldl_cons]
    rcases acc_get d i acc (t.set q.1 (.v q.2)) with h | ⟨p, h1, h2, h3, h4⟩
    · rw [h]
      by_cases hj : q.1 = i
      · by_cases hl : i < t.length
        · exact .inr ⟨q, .head _, hj, hl, by subst hj; simp [List.getD, List.getElem?_set, hl]⟩
        · left; subst hj; simp [List.getD, List.getElem?_set, hl]
      · left; simp [List.getD, List.getElem?_set, hj]
    · exact .inr ⟨p, .tail _ h1, h2, by simpa using h3, h4⟩
theorem fold_len {α : Type} (f : List LV → α → List LV) (hf : ∀ t a, (f t a).length = t.length) : ∀ (l : List α) (t : List LV), (l.foldl f t).length = t.length
  | [], t => rfl
  | a :: l, t => by rw [List.foldl_cons, fold_len f hf l, hf]
theorem outT_len (t : List LV) (ds : List Tmp) (acc : List (Tmp × Value)) : (outT t ds acc).length = t.length := by
  unfold outT
  rw [fold_len _ (fun t a => List.length_set), fold_len _ (fun t a => List.length_set)]
theorem RT.len {L : List LB} {t : List LV} {tr : List Value} (h : RT L t tr) : t.length = tr.length := by
  induction h with
  | nil => rfl
  | cons _ _ ih => simp [ih]
theorem RT.of_get {L : List LB} : ∀ {t : List LV} {tr : List Value}, t.length = tr.length → (∀ i, RV L (t.getD i (.v Go.undef)) (tr.getD i Go.undef)) → RT L t tr
  | [], [], _, _ => .nil
  | [], _ :: _, h, _ => by simp at h
  | _ :: _, [], h, _ => by simp at h
  | x :: t, y :: tr, h, H => .cons (H 0) (RT.of_get (by simpa using h) fun i => H (i + 1))
theorem meetT_get (f0 : St) (l : List St) (i : Nat) (v : Value) (h : ∀ f ∈ f0 :: l, f.t.getD i undef = v) : (meetT f0 l).getD i undef = v := by
  unfold meetT
  have h0 := h f0 (.head _)
  by_cases hi : i < f0.t.length
  · rw [List.getD_eq_getElem?_getD, List.getElem?_map, List.getElem?_range hi, Option.map_some, Option.getD_some]
    split
    · exact h0
    · rename_i hn
      exact absurd (fun f hf => by rw [h0]; exact h f (.tail _ hf)) hn
  · have h1 : (List.range f0.t.length)[i]? = none := List.getElem?_eq_none (by simpa using Nat.le_of_not_lt hi)
    have h2 : f0.t[i]? = none := List.getElem?_eq_none (Nat.le_of_not_lt hi)
    simp only [List.getD, List.getElem?_map, h1, Option.map_none, Option.getD_none]
    simpa [List.getD, h2] using h0
theorem loopM_W {ar : Option Nat} {it nx ok : Tmp} {id : Nat} {c : MCode} {s : LS} {Q : XE → LS → Prop} {r m clock : Nat} {es : List MapEntry} (hborn : ∀ e ∈ es, e.born < clock) (hnm : c.noMap = true) (hlen : nx < s.t.length ∧ ok < s.t.length) (I : Array Nat → LS → Prop) (h0 : I #[] s)
    (inv : ∀ seen S, I seen S → MapInv s it r m clock es seen S)
    (step : ∀ seen S e, I seen S → e ∈ mapLeft seen es → wpC F E ar c (enterL nx ok r m clock seen S e) (fun x S' => x = .normal ∧ I (seen.push e.born) S'))
    (H : Tmp → Value) (hid : ∀ seen S, I seen S → mapLeft seen es = [] → ∀ i ∈ c.dsts, ∃ x, S.t.getD i (.v undef) = .v x ∧ hideV x = H i)
    (acc : List (Tmp × Value)) (hacc : ∀ p ∈ acc, p.1 ≠ nx ∧ p.1 ≠ ok ∧ ∀ seen S, I seen S → mapLeft seen es = [] → S.t.getD p.1 (.v undef) = .v p.2)
    (fin : ∀ n, Q (.exit id) ⟨outT s.t (nx :: ok :: c.dsts) acc, s.L, s.ds, Mem.pad n (s.M.set r .dead)⟩) : RangeW F E ar (.loopM it nx ok id c) s Q := by
  intro q hf
  have V := inv #[] s h0
  have hql : s.t.length = q.t.length := hf.rel.len
  obtain ⟨n, l, h1, h2, h3⟩ := map_key hborn hnm I inv step q.t (by rw [← hql]; exact hlen) _ #[] s q rfl hf h0 (.refl _ _)
  have hit : iterAt q.t q.M it = some (r, .miterL m clock #[] clock) := by
    unfold iterAt
    have h1 := hf.rel.get it
    rw [V.it] at h1
    rcases h1 with h1 | h1
    · cases h1
    · have h2 : q.t.getD it undef = .pointer (some ⟨r, 0, none⟩) := h1
      rw [h2]
      simp only [hf.mem, V.iter, Option.map_some]
  obtain ⟨f0, l, rfl⟩ : ∃ f0 l', l = f0 :: l' := by
    cases l with
    | nil => exact absurd rfl h2
    | cons f0 l => exact ⟨f0, l, rfl⟩
  have hlt : r < s.M.size := Mem.lt_of_get V.iter
  have hall : ∀ f ∈ f0 :: l, f.ds = q.ds ∧ f.t.length = q.t.length ∧ (∀ i, i ∉ nx :: ok :: c.dsts → f.t.getD i undef = q.t.getD i undef) ∧ (f.t.getD nx undef = if nx = ok then .bool false else .tuple #[.bool false]) ∧ f.t.getD ok undef = .bool false ∧
      (∀ i, i ∈ c.dsts → i ≠ nx → i ≠ ok → hideV (f.t.getD i undef) = H i) ∧ (∀ p ∈ acc, f.t.getD p.1 undef = p.2) ∧ ∀ b, b < q.M.size → b ≠ r → f.M.get b = q.M.get b := by
    intro f hfm
    obtain ⟨seen', S', q', rfl, g2, g3, g4, g5, _⟩ := h3 f hfm
    have V' := inv seen' S' g3
    have e1 : ∀ i, (mapOver nx ok q').t.getD i undef = _ := fun i => getD_set2 (t := q'.t) (nx := nx) (ok := ok) (i := i)
    have hl1 : nx < q'.t.length := by rw [g5.1, ← hql]; exact hlen.1
    have hl2 : ok < q'.t.length := by rw [g5.1, ← hql]; exact hlen.2
    refine ⟨?_, ?_, fun i hi => ?_, ?_, ?_, fun i hi n1 n2 => ?_, fun p hp => ?_, fun b hb hr => ?_⟩
    · show q'.ds = q.ds
      rw [g2.ds, V'.ds, hf.ds]
    · simp only [mapOver, List.length_set]; exact g5.1
    · have n1 : i ≠ nx := fun e => hi (by rw [e]; exact .head _)
      have n2 : i ≠ ok := fun e => hi (by rw [e]; exact .tail _ (.head _))
      rw [e1, if_neg (fun h => n2 h.1), if_neg (fun h => n1 h.1)]
      exact g5.2 i hi
    · rw [e1]
      by_cases hno : nx = ok
      · rw [if_pos ⟨hno, hl2⟩, if_pos hno]
      · rw [if_neg (fun h => hno h.1), if_pos ⟨rfl, hl1⟩, if_neg hno]
    · rw [e1, if_pos ⟨rfl, hl2⟩]
    · rw [e1, if_neg (fun h => n2 h.1), if_neg (fun h => n1 h.1)]
      obtain ⟨x, hx, hh⟩ := hid seen' S' g3 g4 i hi
      have := g2.rel.get i
      rw [hx] at this
      rcases this with h | h
      · cases h
      · have h2 : q'.t.getD i undef = x := h
        rw [h2]; exact hh
    · obtain ⟨n1, n2, hp3⟩ := hacc p hp
      rw [e1, if_neg (fun h => n2 h.1), if_neg (fun h => n1 h.1)]
      have := g2.rel.get p.1
      rw [hp3 seen' S' g3 g4] at this
      rcases this with h | h
      · cases h
      · exact h
    · show q'.M.get b = q.M.get b
      rw [g2.mem, hf.mem]
      rw [hf.mem] at hb
      exact V'.old b hb hr
  have A0 := hall f0 (.head _)
  have alike : ∀ f ∈ f0 :: l, MapAlike q f0 f r := fun f hfm => by
    have A := hall f hfm
    refine ⟨A.1, A.2.1.trans A0.2.1.symm, fun i => ?_, A.2.2.2.2.2.2.2⟩
    by_cases c2 : i = ok
    · subst c2; rw [A.2.2.2.2.1, A0.2.2.2.2.1]
    by_cases c1 : i = nx
    · subst c1; rw [A.2.2.2.1, A0.2.2.2.1]
    by_cases c3 : i ∈ c.dsts
    · rw [A.2.2.2.2.2.1 i c3 c1 c2, A0.2.2.2.2.2.1 i c3 c1 c2]
    · have hn : i ∉ nx :: ok :: c.dsts := fun h => by
        cases h with
        | head => exact c1 rfl
        | tail _ h => cases h with
          | head => exact c2 rfl
          | tail _ h => exact c3 h
      rw [A.2.2.1 i hn, A0.2.2.1 i hn]
  refine ⟨n, .exit id, ⟨meetT f0 l, q.ds, Mem.pad (maxSize (f0 :: l) - q.M.size) (q.M.set r .dead)⟩, ?_, ⟨outT s.t (nx :: ok :: c.dsts) acc, s.L, s.ds, Mem.pad (maxSize (f0 :: l) - q.M.size) (s.M.set r .dead)⟩, ?_, fin _⟩
  · simp only [exec, mapEnd, hit, h1 n n (Nat.le_refl _) (Nat.le_refl _)]
    rw [if_pos ⟨by rw [hf.mem]; exact V.base, alike⟩]
  · have hst : MStep s.M (s.M.set r .dead) := MStep.set V.base hlt .dead
    refine ⟨?_, ?_, ?_, hf.ds, by rw [hf.mem]⟩
    · refine hf.own.step (hst.trans (pad_step _ _ (hst.ok hf.own.base))) fun b hb hbl => ?_
      obtain ⟨lb, hlb, rfl⟩ := List.mem_map.1 hb
      show (Mem.pad _ (s.M.set r .dead)).get lb.b = s.M.get lb.b
      rw [pad_get, if_pos (show lb.b < (s.M.set r .dead).size from hbl), Mem.get_set _ _ _ hlt, if_neg fun e => by
        have := (hf.own.has lb hlb).1
        rw [e, V.iter] at this; cases this]
    · intro x hx
      obtain ⟨i, hi, hxi⟩ := List.mem_iff_getElem.1 hx
      have hg : (outT s.t (nx :: ok :: c.dsts) acc).getD i (.v undef) = x := by simp [List.getD, List.getElem?_eq_getElem hi, hxi]
      unfold outT at hg
      rcases acc_get (.v undef) i acc ((nx :: ok :: c.dsts).foldl (fun t i => t.set i .any) s.t) with h | ⟨p, _, _, _, h⟩
      · rw [h] at hg
        rcases any_get (.v undef) i (nx :: ok :: c.dsts) s.t with k | ⟨_, k⟩
        · rw [k] at hg; subst hg; trivial
        · rw [k] at hg
          rw [← hg]
          have hil : i < s.t.length := by rw [outT_len] at hi; exact hi
          have : s.t.getD i (.v undef) ∈ s.t := by
            simp [List.getD, List.getElem?_eq_getElem hil]
          exact hf.fit _ this
      · rw [h] at hg; subst hg; trivial
    · refine RT.of_get (by rw [outT_len, hql]; simp [meetT, A0.2.1]) fun i => ?_
      unfold outT
      rcases acc_get (.v undef) i acc ((nx :: ok :: c.dsts).foldl (fun t i => t.set i .any) s.t) with h | ⟨p, hp, hpi, _, h⟩
      · rw [h]
        rcases any_get (.v undef) i (nx :: ok :: c.dsts) s.t with k | ⟨k1, k⟩
        · rw [k]; exact .inl rfl
        · rw [k]
          have : (meetT f0 l).getD i undef = q.t.getD i undef := by
            refine meetT_get f0 l i _ fun f hfm => ?_
            rcases k1 with k1 | k1
            · exact (hall f hfm).2.2.1 i k1
            · have e1 : q.t[i]? = none := List.getElem?_eq_none (by rw [← hql]; exact k1)
              have e2 : f.t[i]? = none := List.getElem?_eq_none (by rw [(hall f hfm).2.1, ← hql]; exact k1)
              simp [List.getD, e1, e2]
          show RV s.L _ ((meetT f0 l).getD i undef)
          rw [this]
          exact hf.rel.get i
      · rw [h]
        show RV s.L _ ((meetT f0 l).getD i undef)
        rw [meetT_get f0 l i p.2 fun f hfm => by rw [← hpi]; exact (hall f hfm).2.2.2.2.2.2.1 p hp]
        exact .inr rfl
theorem loopM_nil {ar : Option Nat} {it nx ok : Tmp} {id : Nat} {c : MCode} {s : LS} {Q : XE → LS → Prop} {r m clock : Nat} (hit : s.t.getD it (.v undef) = .v (.pointer (some ⟨r, 0, none⟩))) (hr : s.M.get r = some (.miter (some m))) (hm : s.M.get m = some (.map [] clock)) (hlen : nx < s.t.length ∧ ok < s.t.length)
    (fin : Q (.exit id) ⟨(s.t.set nx (.v (.tuple #[.bool false]))).set ok (.v (.bool false)), s.L, s.ds, s.M⟩) : RangeW F E ar (.loopM it nx ok id c) s Q := by
  intro q hf
  have hql : s.t.length = q.t.length := hf.rel.len
  have hi : iterAt q.t q.M it = some (r, .miter (some m)) := by
    unfold iterAt
    have h1 := hf.rel.get it
    rw [hit] at h1
    rcases h1 with h1 | h1
    · cases h1
    · have h2 : q.t.getD it undef = .pointer (some ⟨r, 0, none⟩) := h1
      rw [h2]
      simp only [hf.mem, hr, Option.map_some]
  refine ⟨0, .exit id, mapOver nx ok q, ?_, ⟨(s.t.set nx (.v (.tuple #[.bool false]))).set ok (.v (.bool false)), s.L, s.ds, s.M⟩, ⟨hf.own, (hf.fit.set (x := .v _) trivial _).set (x := .v _) trivial _, (hf.rel.set (.inr rfl) _).set (.inr rfl) _, hf.ds, hf.mem⟩, fin⟩
  have hmq : q.M.get m = some (.map [] clock) := by rw [hf.mem]; exact hm
  simp only [exec, mapEnd, hi, hmq]
  rw [if_pos ⟨by rw [← hql]; exact hlen.1, by rw [← hql]; exact hlen.2⟩]
end
end Go.Proofs.Ytklnbkacnghdnaa.Run
