/- Ranges over functions, over the calculus: what an iterator does with the thing that it yields to, and what the body of a range does. No statement of the program's is proved here. -/
import Derived.Test.YtifemfnjoobiiaaStep
namespace Go.Proofs.Ytifemfnjoobiiaa.Run
open Go Go.RowKit
set_option linter.unusedVariables false
set_option linter.unusedSimpArgs false
structure Touch (p : Nat → Prop) (M N : Mem) : Prop where
 base : N.base = M.base
 size : M.size ≤ N.size
 get : ∀ b, b < M.size → ¬ p b → N.get b = M.get b
structure Agree (l : Nat) (M N : Mem) : Prop where
 base : N.base = M.base
 size : N.size = M.size
 get : ∀ b, b ≠ l → N.get b = M.get b
structure Keep (n0 : Nat) (X B : List Nat) (M N : Mem) : Prop where
 base : N.base = M.base
 size : M.size ≤ N.size
 get : ∀ b, ((b < n0 ∧ b ∉ X) ∨ b ∈ B) → N.get b = M.get b
theorem Touch.refl (p : Nat → Prop) (M : Mem) : Touch p M M := ⟨rfl, Nat.le_refl _, fun _ _ _ => rfl⟩
theorem Touch.trans {p : Nat → Prop} {A B C : Mem} (h : Touch p A B) (k : Touch p B C) : Touch p A C := ⟨k.base.trans h.base, Nat.le_trans h.size k.size, fun b hb hp => (k.get b (Nat.lt_of_lt_of_le hb h.size) hp).trans (h.get b hb hp)⟩
theorem Ext.touch {A B : Mem} (h : Ext A B) (p : Nat → Prop) : Touch p A B := ⟨h.base, h.size, fun b hb _ => h.get b hb⟩
theorem Agree.touch {l : Nat} {A B : Mem} (h : Agree l A B) {p : Nat → Prop} (hl : p l) : Touch p A B := ⟨h.base, Nat.le_of_eq h.size.symm, fun b _ hp => h.get b (fun e => hp (e ▸ hl))⟩
theorem Touch.set {p : Nat → Prop} {A B : Mem} (h : Touch p A B) {b : Nat} (hb : p b) (hn : b < B.size) (o : AObj) : Touch p A (B.set b o) := ⟨h.base, h.size, fun c hc hp => by rw [Mem.get_set _ _ _ hn, if_neg (fun (e : c = b) => hp (by rw [e]; exact hb))]; exact h.get c hc hp⟩
def setAll (t : List LV) : List Tmp → List Value → List LV
 | p :: ps, x :: xs => setAll (t.set p (.v x)) ps xs
 | _, _ => t
theorem setAll_rel {L : List LB} : ∀ (ps : List Tmp) (xs : List Value) {t : List LV} {tr : List Value}, RT L t tr → RT L (setAll t ps xs) ((ps.zip xs).foldl (fun t p => t.set p.1 p.2) tr)
 | p :: ps, x :: xs, t, tr, h => by
  unfold setAll
  rw [List.zip_cons_cons, List.foldl_cons]
  exact setAll_rel ps xs (h.set (.inr rfl) p)
 | [], _, t, tr, h => by unfold setAll; simpa using h
 | _ :: _, [], t, tr, h => by unfold setAll; simpa using h
theorem setAll_fit {L : List LB} : ∀ (ps : List Tmp) (xs : List Value) {t : List LV}, FitAll L t → FitAll L (setAll t ps xs)
 | p :: ps, x :: xs, t, h => by
  unfold setAll
  refine setAll_fit ps xs fun y hy => ?_
  rcases List.mem_or_eq_of_mem_set hy with hy | rfl
  ·exact h y hy
  ·trivial
 | [], _, t, h => by unfold setAll; exact h
 | _ :: _, [], t, h => by unfold setAll; exact h
theorem sameB_get {L K : List LB} (h : L.map (·.b) = K.map (·.b)) (i : Nat) : (L[i]?).map (·.b) = (K[i]?).map (·.b) := by
 have := congrArg (fun l => l[i]?) h
 simpa [List.getElem?_map] using this
theorem sameB_val {L K : List LB} (h : L.map (·.b) = K.map (·.b)) (x : LV) : x.val L = x.val K := by
 cases x with
 | loc i o =>
  have := sameB_get h i
  show (match L[i]? with
   | some l => Value.pointer (some ⟨l.b, o, none⟩)
   | none => undef) = (match K[i]? with
   | some l => Value.pointer (some ⟨l.b, o, none⟩)
   | none => undef)
  cases hl : L[i]? with
  | none => rw [hl] at this; cases hk : K[i]? with
   | none => rfl
   | some k => rw [hk] at this; cases this
  | some l => rw [hl] at this; cases hk : K[i]? with
   | none => rw [hk] at this; cases this
   | some k =>
    rw [hk] at this
    have : l.b = k.b := by simpa using this
    simp only [this]
 | _ => rfl
theorem RT.sameB {L K : List LB} (h : L.map (·.b) = K.map (·.b)) {t : List LV} {tr : List Value} (hr : RT L t tr) : RT K t tr := by
 induction hr with
 | nil => exact .nil
 | cons h1 _ ih => exact .cons (h1.imp id fun e => e.trans (sameB_val h _)) ih
theorem Own.take {L : List LB} {M : Mem} (h : Own L M) (n : Nat) : Own (L.take n) M := by
 refine ⟨h.base, fun l hl => h.has l (List.mem_of_mem_take hl), fun i j l m hi hj hb => ?_⟩
 rw [List.getElem?_take] at hi hj
 split at hi
 ·split at hj
  ·exact h.inj i j l m hi hj hb
  ·cases hj
 ·cases hi
theorem FitAll.sameB {L K : List LB} (h : L.map (·.b) = K.map (·.b)) {t : List LV} (hf : FitAll L t) : FitAll K t := fun x hx => by
 have := hf x hx
 have hl : L.length = K.length := by simpa using congrArg List.length h
 cases x with
 | loc i o =>
  have : i < L.length := this
  show i < K.length
  omega
 | _ => trivial
section
variable (F : Funs) (E : Orac)
def BodyW (l : Nat) (as bd : MCode) (s : LS) (Q : Mem → XE → LS → Prop) : Prop :=
 wpC F E (some l) as s (fun e S => e = .normal ∧ S.M.get l = s.M.get l ∧ ∀ N, Agree l S.M N → wpC F E (some l) bd ⟨S.t, S.L, S.ds, N⟩ (Q N))
structure Yields (y : Value) (n0 : Nat) (X : List Nat) (items : List (List Value)) (I : Nat → List Nat → Mem → Prop) (Stop : List Nat → Mem → Prop) : Prop where
 mono : ∀ i B N N', I i B N → Keep n0 X B N N' → I i B N'
 smono : ∀ B N N', Stop B N → Keep n0 X B N N' → Stop B N'
 own : ∀ i B N, I i B N → ∀ b ∈ B, n0 ≤ b ∧ b < N.size
 call : ∀ i x B N, items[i]? = some x → I i B N → n0 ≤ N.size → N.base ≤ N.size → W F E y x N (fun r N' => N'.base = N.base ∧ N.size ≤ N'.size ∧ ∃ B', (∀ b ∈ B', (b ∈ B ∨ N.size ≤ b) ∧ b < N'.size) ∧
  (∀ b, b < N.size → b ∉ B → (n0 ≤ b ∨ b ∈ X) → N'.get b = N.get b) ∧ ((r = .bool true ∧ I (i + 1) B' N') ∨ (r = .bool false ∧ Stop B' N')))
def IterR (fv : Value) (X : List Nat) (R : Nat → Mem → Prop) (M1 : Mem) (items : List (List Value)) : Prop :=
 ∀ (y : Value) (I : Nat → List Nat → Mem → Prop) (Stop : List Nat → Mem → Prop) (M0 : Mem), M0.base ≤ M0.size → Ext M1 M0 → Yields F E y M0.size X items I Stop → (∀ i B N, I i B N → R i N) → I 0 [] M0 →
  W F E fv [y] M0 (fun _ N => N.base = M0.base ∧ M0.size ≤ N.size ∧ ∃ B, I items.length B N ∨ Stop B N)
end
section
variable {F : Funs} {E : Orac}
theorem W_yield {l : Nat} {x : List Value} {N : Mem} {p : Option XE} {tm : List Value} {ps : List Tmp} {as bd : MCode} {d : Nat} (hg : N.get l = some (.loop .ready p tm ps as bd d)) (hb : N.base ≤ l) (hlen : x.length = ps.length)
  {t : List LV} {L : List LB} (own : Own L N) (fit : FitAll L t) (rel : RT L t tm) {Q : Mem → XE → LS → Prop} (h : BodyW F E l as bd ⟨setAll t ps x, L, [], N⟩ Q) {R : Value → Mem → Prop}
  (k : ∀ N1 e S, N1.get l = some (.loop .busy p tm ps as bd d) → Q N1 e S → Own S.L S.M → S.M.get l = N1.get l ∧ (e = .normal → R (.bool true) (S.M.set l (.loop .ready none tm ps as bd d))) ∧ (e ≠ .normal → R (.bool false) (S.M.set l (.loop .done (some e) tm ps as bd d)))) :
  W F E (.func (.yield l) #[] #[]) x N R := by
 obtain ⟨n, e1, s1, h1, S1, f1, rfl, hg1, hbd⟩ := wpC_sound (some l) as (s := ⟨setAll t ps x, L, [], N⟩) (r := ⟨(ps.zip x).foldl (fun t p => t.set p.1 p.2) tm, [], N⟩) ⟨own, setAll_fit ps x fit, setAll_rel ps x rel, rfl, rfl⟩ h
 have hg1 : S1.M.get l = some (.loop .ready p tm ps as bd d) := hg1.trans hg
 have hl := Mem.lt_of_get hg1
 have hag : Agree l S1.M (S1.M.set l (.loop .busy p tm ps as bd d)) := ⟨rfl, rfl, fun b hb => by rw [Mem.get_set _ _ _ hl, if_neg hb]⟩
 have own1 : Own S1.L (S1.M.set l (.loop .busy p tm ps as bd d)) := by
  refine ⟨f1.own.base, fun lb hlb => ?_, f1.own.inj⟩
  obtain ⟨a, b⟩ := f1.own.has lb hlb
  refine ⟨?_, b⟩
  rw [Mem.get_set _ _ _ hl, if_neg]
  ·exact a
  ·intro e; rw [e, hg1] at a; cases a
 obtain ⟨m, e2, s2, h2, S2, f2, q2⟩ := wpC_sound (some l) bd (s := ⟨S1.t, S1.L, S1.ds, S1.M.set l (.loop .busy p tm ps as bd d)⟩) (r := ⟨s1.t, s1.ds, S1.M.set l (.loop .busy p tm ps as bd d)⟩) ⟨own1, f1.fit, f1.rel, f1.ds, rfl⟩ (hbd _ hag)
 have hbusy : (S1.M.set l (.loop .busy p tm ps as bd d)).get l = some (.loop .busy p tm ps as bd d) := by rw [Mem.get_set _ _ _ hl, if_pos rfl]
 obtain ⟨k1, k2, k3⟩ := k _ e2 S2 hbusy q2 f2.own
 have hg2 : s2.M.get l = some (.loop .busy p tm ps as bd d) := by rw [f2.mem, k1, hbusy]
 have h1' := exec_mono (callN_mono F E (Nat.le_max_left n m)) (Nat.le_max_left n m) _ _ h1
 have h2' := exec_mono (callN_mono F E (Nat.le_max_right n m)) (Nat.le_max_right n m) _ _ h2
 have hs1 : s1.M = S1.M := f1.mem
 have hround : ∀ r M', (match e2 with
   | .normal => some (Value.bool true, s2.M.set l (.loop .ready none tm ps as bd d))
   | x => some (Value.bool false, s2.M.set l (.loop .done (some x) tm ps as bd d))) = some (r, M') → callN F E (max n m + 1) (.func (.yield l) #[] #[]) x N = some (r, M') := by
  intro r M' hr
  simp only [callN, roundV, hg]
  rw [if_pos ⟨hlen, hb⟩, h1']
  simp only [hs1, hg1]
  rw [h2']
  simp only [hg2]
  cases e2 <;> exact hr
 cases e2 with
 | normal => exact ⟨_, _, _, hround _ _ rfl, by rw [f2.mem]; exact k2 rfl⟩
 | exit i => exact ⟨_, _, _, hround _ _ rfl, by rw [f2.mem]; exact k3 (by simp)⟩
 | ret => exact ⟨_, _, _, hround _ _ rfl, by rw [f2.mem]; exact k3 (by simp)⟩
theorem range_R {s : LS} {f : Operand} {ps : List Tmp} {as bd : MCode} {Q : XE → LS → Prop} {g : FuncId} {first cap : Array Value} (hf : lvO s.t f = .v (.func (.func g) first cap)) {X : List Nat} {R : Nat → Mem → Prop} {M1 : Mem} {items : List (List Value)}
  (it : IterR F E (.func (.func g) first cap) X R M1 items) (e1 : Ext M1 s.M) (hX : ∀ b ∈ X, b < s.M.size ∧ b ∉ s.L.map (·.b)) {Y0 : List Nat} (hY : ∀ b ∈ Y0, b < s.M.size ∧ b ∉ X) (len : ∀ x ∈ items, x.length = ps.length)
  (J : Nat → List Nat → List LB → Mem → Prop) (Z : XE → List Nat → List LB → Mem → Prop)
  (Jm : ∀ i B L N N', J i B L N → Keep s.M.size X B N N' → J i B L N') (Zm : ∀ e B L N N', Z e B L N → Keep s.M.size X B N N' → Z e B L N')
  (Jr : ∀ i B L N, J i B L N → R i N) (Jb : ∀ i B L N, J i B L N → ∀ b ∈ B, s.M.size + 2 ≤ b ∧ b < N.size)
  (Zb : ∀ e B L N, Z e B L N → ∀ b ∈ B, s.M.size + 2 ≤ b)
  (Js : ∀ i B L N, J i B L N → L.map (·.b) = s.L.map (·.b)) (Zs : ∀ e B L N, Z e B L N → L.map (·.b) = s.L.map (·.b))
  (J0 : J 0 [] s.L s.M)
  (body : ∀ i x B L N, items[i]? = some x → J i B L N → N.base = s.M.base → s.M.size + 2 ≤ N.size → N.base ≤ N.size → BodyW F E (s.M.size + 1) as bd ⟨setAll s.t ps x, L, [], N⟩ (fun N1 e S => S.M.get (s.M.size + 1) = N1.get (s.M.size + 1) ∧
   Touch (fun b => b = s.M.size + 1 ∨ b ∈ L.map (·.b) ∨ b ∈ Y0 ∨ b ∈ B) N S.M ∧ ∃ B', (∀ b ∈ B', (b ∈ B ∨ N.size ≤ b) ∧ b < S.M.size) ∧ ((e = .normal ∧ J (i + 1) B' (S.L.take s.L.length) S.M) ∨ (e ≠ .normal ∧ Z e B' (S.L.take s.L.length) S.M))))
  (done : ∀ B L N, J items.length B L N → N.base = s.M.base → s.M.size + 2 ≤ N.size → N.get s.M.size = some .dblk → Q .normal ⟨s.t, L, s.M.size :: s.ds, N⟩)
  (zdone : ∀ e B L N, Z e B L N → N.base = s.M.base → s.M.size + 2 ≤ N.size → N.get s.M.size = some .dblk → Q e ⟨s.t, L, s.M.size :: s.ds, N⟩) :
  RangeW F E none (.rangeFunc f ps as bd) s Q := by
 intro r hr
 have hkn : knownO s.t f = true := by unfold knownO; rw [hf]; rfl
 have hev : ev r.t f = .func (.func g) first cap := by rw [ev_real hr.rel hkn]; unfold evL; rw [hf]; rfl
 have hMr : r.M = s.M := hr.mem
 have hbase : s.M.base ≤ s.M.size := hr.own.base
 have hLb : ∀ lb ∈ s.L, lb.b < s.M.size := fun lb hlb => Mem.lt_of_get (hr.own.has lb hlb).1
 have hLb' : ∀ b ∈ s.L.map (·.b), b < s.M.size ∧ b ∉ X := fun b hb => by
  obtain ⟨lb, h1, rfl⟩ := List.mem_map.1 hb
  exact ⟨hLb lb h1, fun hx => (hX _ hx).2 hb⟩
 generalize hM0 : (s.M.push .dblk).push (.loop .ready none r.t ps as bd s.M.size) = M0
 have sM0 : M0.size = s.M.size + 2 := by rw [← hM0]; rfl
 have bM0 : M0.base = s.M.base := by rw [← hM0]; rfl
 have gM0 : ∀ b, b < s.M.size → M0.get b = s.M.get b := fun b hb => by rw [← hM0, Mem.get_push, Mem.push_size, if_neg (by omega), Mem.get_push, if_neg (by omega)]
 have eM0 : Ext s.M M0 := ⟨bM0, by omega, gM0⟩
 have gl : M0.get (s.M.size + 1) = some (.loop .ready none r.t ps as bd s.M.size) := by rw [← hM0, Mem.get_push, Mem.push_size, if_pos rfl]
 have gd : M0.get s.M.size = some .dblk := by rw [← hM0, Mem.get_push, Mem.push_size, if_neg (by omega), Mem.get_push, if_pos rfl]
 let I : Nat → List Nat → Mem → Prop := fun i B N => ∃ L, J i B L N ∧ Own L N ∧ N.base = s.M.base ∧ N.get (s.M.size + 1) = some (.loop .ready none r.t ps as bd s.M.size) ∧ N.get s.M.size = some .dblk ∧ s.M.size + 2 ≤ N.size
 let Stop : List Nat → Mem → Prop := fun B N => ∃ e L, Z e B L N ∧ Own L N ∧ N.base = s.M.base ∧ N.get (s.M.size + 1) = some (.loop .done (some e) r.t ps as bd s.M.size) ∧ N.get s.M.size = some .dblk ∧ s.M.size + 2 ≤ N.size
 have keepO : ∀ {B L N N'}, L.map (·.b) = s.L.map (·.b) → Own L N → Keep M0.size X B N N' → N.base ≤ N.size → Own L N' := fun {B L N N'} hs ho hk hb => by
  refine ⟨by have := hk.base; have := hk.size; omega, fun lb hlb => ?_, ho.inj⟩
  obtain ⟨a, b⟩ := ho.has lb hlb
  have hin : lb.b ∈ s.L.map (·.b) := by rw [← hs]; exact List.mem_map_of_mem hlb
  obtain ⟨c1, c2⟩ := hLb' _ hin
  exact ⟨by rw [hk.get _ (.inl ⟨by omega, c2⟩)]; exact a, by rw [hk.base]; exact b⟩
 have keepJ : ∀ {B N N'}, Keep M0.size X B N N' → Keep s.M.size X B N N' := fun {B N N'} hk => ⟨hk.base, hk.size, fun b hb => hk.get b (hb.imp (fun h => ⟨by omega, h.2⟩) id)⟩
 have notX : ∀ b, s.M.size ≤ b → b ∉ X := fun b hb hx => by have := (hX b hx).1; omega
 have Y : Yields F E (.func (.yield (s.M.size + 1)) #[] #[]) M0.size X items I Stop := by
  refine ⟨?_, ?_, ?_, ?_⟩
  ·rintro i B N N' ⟨L, j, o, b, g1, g2, sz⟩ hk
   exact ⟨L, Jm _ _ _ _ _ j (keepJ hk), keepO (Js _ _ _ _ j) o hk o.base, by rw [hk.base, b], by rw [hk.get _ (.inl ⟨by omega, notX _ (by omega)⟩)]; exact g1, by rw [hk.get _ (.inl ⟨by omega, notX _ (by omega)⟩)]; exact g2, Nat.le_trans sz hk.size⟩
  ·rintro B N N' ⟨e, L, j, o, b, g1, g2, sz⟩ hk
   exact ⟨e, L, Zm _ _ _ _ _ j (keepJ hk), keepO (Zs _ _ _ _ j) o hk o.base, by rw [hk.base, b], by rw [hk.get _ (.inl ⟨by omega, notX _ (by omega)⟩)]; exact g1, by rw [hk.get _ (.inl ⟨by omega, notX _ (by omega)⟩)]; exact g2, Nat.le_trans sz hk.size⟩
  ·rintro i B N ⟨L, j, _⟩ b hb
   have := Jb _ _ _ _ j b hb
   exact ⟨by omega, this.2⟩
  ·rintro i x B N hx ⟨L, j, o, b, g1, g2, sz⟩ _ hNb
   have hs := Js _ _ _ _ j
   have hs' := hs.symm
   refine W_yield g1 (by omega) (len x (List.mem_of_getElem? hx)) o (FitAll.sameB hs' hr.fit) (RT.sameB hs' hr.rel) (body i x B L N hx j b sz hNb) ?_
   rintro N1 e S hbusy ⟨q1, q2, B', q3, q4⟩ oS
   refine ⟨q1, ?_⟩
   have hlS : s.M.size + 1 < S.M.size := Mem.lt_of_get (q1.trans hbusy)
   have ownL : ∀ b', b' ∈ L.map (·.b) → b' < s.M.size ∧ b' ∉ X := fun b' hb' => hLb' b' (hs ▸ hb')
   have hBge : ∀ b' ∈ B', s.M.size + 2 ≤ b' := fun b' hb' => by
    rcases (q3 b' hb').1 with h | h
    ·exact (Jb _ _ _ _ j b' h).1
    ·omega
   have kset : ∀ ob, Keep s.M.size X B' S.M (S.M.set (s.M.size + 1) ob) := fun ob => ⟨rfl, Nat.le_refl _, fun b' hb' => by
    rw [Mem.get_set _ _ _ hlS, if_neg]
    rcases hb' with h | h
    ·omega
    ·have := hBge b' h; omega⟩
   have ownS : ∀ {K : List LB} ob, K.map (·.b) = s.L.map (·.b) → Own K S.M → Own K (S.M.set (s.M.size + 1) ob) := fun {K} ob hK hO => by
    refine ⟨hO.base, fun lb hlb => ?_, hO.inj⟩
    obtain ⟨a, b'⟩ := hO.has lb hlb
    refine ⟨?_, b'⟩
    have hin : lb.b ∈ s.L.map (·.b) := by rw [← hK]; exact List.mem_map_of_mem hlb
    have := (hLb' _ hin).1
    rw [Mem.get_set _ _ _ hlS, if_neg (by omega)]; exact a
   have hd2 : ∀ ob, (S.M.set (s.M.size + 1) ob).get s.M.size = some .dblk := fun ob => by
    rw [Mem.get_set _ _ _ hlS, if_neg (by omega), q2.get _ (by omega)]
    ·exact g2
    ·rintro (h | h | h | h)
     ·omega
     ·have := (ownL _ h).1; omega
     ·have := (hY _ h).1; omega
     ·have := (Jb _ _ _ _ j _ h).1; omega
   have hrest : ∀ ob, ∀ b', b' < N.size → b' ∉ B → (M0.size ≤ b' ∨ b' ∈ X) → (S.M.set (s.M.size + 1) ob).get b' = N.get b' := fun ob b' h1 h2 h3 => by
    have hne : b' ≠ s.M.size + 1 := by
     rintro rfl
     rcases h3 with h | h
     ·omega
     ·exact notX _ (by omega) h
    rw [Mem.get_set _ _ _ hlS, if_neg hne, q2.get b' h1]
    rintro (h | h | h | h)
    ·exact hne h
    ·obtain ⟨c1, c2⟩ := ownL _ h
     rcases h3 with h3 | h3
     ·omega
     ·exact c2 h3
    ·obtain ⟨c1, c2⟩ := hY _ h
     rcases h3 with h3 | h3
     ·omega
     ·exact c2 h3
    ·exact h2 h
   have hbS : S.M.base = s.M.base := q2.base.trans b
   refine ⟨fun he => ?_, fun he => ?_⟩
   ·rcases q4 with ⟨_, q4⟩ | ⟨q4, _⟩
    ·exact ⟨q2.base, q2.size, B', q3, hrest _, .inl ⟨rfl, _, Jm _ _ _ _ _ q4 (kset _), ownS _ (Js _ _ _ _ q4) (oS.take _), hbS, by rw [Mem.get_set _ _ _ hlS, if_pos rfl], hd2 _, Nat.le_trans sz q2.size⟩⟩
    ·exact absurd he q4
   ·rcases q4 with ⟨q4, _⟩ | ⟨_, q4⟩
    ·exact absurd q4 he
    ·exact ⟨q2.base, q2.size, B', q3, hrest _, .inr ⟨rfl, e, _, Zm _ _ _ _ _ q4 (kset _), ownS _ (Zs _ _ _ _ q4) (oS.take _), hbS, by rw [Mem.get_set _ _ _ hlS, if_pos rfl], hd2 _, Nat.le_trans sz q2.size⟩⟩
 have I0 : I 0 [] M0 := ⟨s.L, Jm _ _ _ _ _ J0 ⟨bM0, by omega, fun b hb => gM0 b (by rcases hb with h | h; exact h.1; cases h)⟩, by
   refine ⟨by omega, fun lb hlb => ?_, hr.own.inj⟩
   obtain ⟨a, b⟩ := hr.own.has lb hlb
   exact ⟨by rw [gM0 _ (hLb lb hlb)]; exact a, by omega⟩, bM0, gl, gd, by omega⟩
 obtain ⟨n, v, N, hcall, hNb, hNs, B, hres⟩ := it (.func (.yield (s.M.size + 1)) #[] #[]) I Stop M0 (by omega) (e1.trans eM0) Y (fun i B N h => by obtain ⟨L, j, _⟩ := h; exact Jr _ _ _ _ j) I0
 have hexec : ∀ x s', endRange (s.M.size + 1) r.t (s.M.size :: r.ds) N = some (x, s') → exec (callN F E n) n none (.rangeFunc f ps as bd) r = some (x, s') := by
  intro x s' he
  simp only [exec, hev, isFn, if_true, hMr, hM0]
  rw [hcall]
  exact he
 have hds := hr.ds
 rcases hres with ⟨L, j, o, b, g1, g2, sz⟩ | ⟨e, L, j, o, b, g1, g2, sz⟩
 ·have hls := Mem.lt_of_get g1
  refine ⟨n, .normal, _, hexec _ _ (by simp only [endRange, g1]; rw [if_pos ⟨by omega, by simp⟩]; rfl), ⟨s.t, L, s.M.size :: s.ds, N.set (s.M.size + 1) (.loop .exhausted none r.t ps as bd s.M.size)⟩, ?_, ?_⟩
  ·have hs := Js _ _ _ _ j
   refine ⟨?_, FitAll.sameB hs.symm hr.fit, RT.sameB hs.symm hr.rel, by rw [hds], rfl⟩
   refine ⟨o.base, fun lb hlb => ?_, o.inj⟩
   obtain ⟨a, b'⟩ := o.has lb hlb
   have hin : lb.b ∈ s.L.map (·.b) := by rw [← hs]; exact List.mem_map_of_mem hlb
   have := (hLb' _ hin).1
   exact ⟨by rw [Mem.get_set _ _ _ hls, if_neg (by omega)]; exact a, b'⟩
  ·refine done B L _ (Jm _ _ _ _ _ j ⟨rfl, Nat.le_refl _, fun b' hb' => ?_⟩) b sz (by rw [Mem.get_set _ _ _ hls, if_neg (by omega)]; exact g2)
   rw [Mem.get_set _ _ _ hls, if_neg]
   rcases hb' with h | h
   ·omega
   ·have := (Jb _ _ _ _ j b' h).1; omega
 ·have hls := Mem.lt_of_get g1
  refine ⟨n, e, _, hexec _ _ (by simp only [endRange, g1]; rw [if_pos ⟨by omega, by simp⟩]; rfl), ⟨s.t, L, s.M.size :: s.ds, N.set (s.M.size + 1) (.loop .exhausted (some e) r.t ps as bd s.M.size)⟩, ?_, ?_⟩
  ·have hs := Zs _ _ _ _ j
   refine ⟨?_, FitAll.sameB hs.symm hr.fit, RT.sameB hs.symm hr.rel, by rw [hds], rfl⟩
   refine ⟨o.base, fun lb hlb => ?_, o.inj⟩
   obtain ⟨a, b'⟩ := o.has lb hlb
   have hin : lb.b ∈ s.L.map (·.b) := by rw [← hs]; exact List.mem_map_of_mem hlb
   have := (hLb' _ hin).1
   exact ⟨by rw [Mem.get_set _ _ _ hls, if_neg (by omega)]; exact a, b'⟩
  ·refine zdone e B L _ (Zm _ _ _ _ _ j ⟨rfl, Nat.le_refl _, fun b' hb' => ?_⟩) b sz (by rw [Mem.get_set _ _ _ hls, if_neg (by omega)]; exact g2)
   rw [Mem.get_set _ _ _ hls, if_neg]
   rcases hb' with h | h
   ·omega
   ·have := Zb _ _ _ _ j b' h; omega
theorem retK_ds {m : MFunc} {Q : Value → Mem → Prop} {s : LS} (h : ∃ M', killAll s.M s.ds = some M' ∧ wpRes m.res s.t s.L M' (fun vs => Q (tupV vs) M')) : retK m Q .normal s ∧ retK m Q .ret s := by
 obtain ⟨t, L, ds, M⟩ := s
 cases ds with
 | nil =>
  obtain ⟨M', h1, h2⟩ := h
  cases h1
  exact ⟨h2, h2⟩
 | cons d ds => exact ⟨h, h⟩
theorem kill_ok : ∀ (ds : List Nat) (N : Mem), (∀ d ∈ ds, N.base ≤ d ∧ N.get d = some .dblk) → ds.Nodup → ∃ N', killAll N ds = some N' ∧ N'.base = N.base ∧ N'.size = N.size ∧ ∀ b, b ∉ ds → N'.get b = N.get b
 | [], N, _, _ => ⟨N, rfl, rfl, rfl, fun _ _ => rfl⟩
 | d :: ds, N, h, hn => by
  obtain ⟨h1, h2⟩ := h d List.mem_cons_self
  have hl := Mem.lt_of_get h2
  rw [List.nodup_cons] at hn
  obtain ⟨N', k1, k2, k3, k4⟩ := kill_ok ds (N.set d .dead) (fun d' hd' => by
   obtain ⟨a, b⟩ := h d' (List.mem_cons_of_mem _ hd')
   refine ⟨a, ?_⟩
   rw [Mem.get_set _ _ _ hl, if_neg]
   ·exact b
   ·rintro rfl; exact hn.1 hd') hn.2
  refine ⟨N', ?_, k2, k3, fun b hb => ?_⟩
  ·unfold killAll; rw [h2]; simp only; rw [if_pos h1]; exact k1
  ·rw [List.mem_cons, not_or] at hb
   rw [k4 b hb.2, Mem.get_set _ _ _ hl, if_neg hb.1]
end
end Go.Proofs.Ytifemfnjoobiiaa.Run
