/- What a run leaves alone in the small memory. No statement of the program's is proved here. -/
import Derived.Test.YtifemfnjoobiiaaRunK
namespace Go.Proofs.Ytifemfnjoobiiaa.Run
open Go Go.RowKit
set_option linter.unusedVariables false
set_option linter.unusedSimpArgs false
structure MStep (M M' : Mem) : Prop where
 base : M'.base = M.base
 size : M.size ≤ M'.size
 ro : ∀ b, b < M.base → M'.get b = M.get b
theorem MStep.refl (M : Mem) : MStep M M := ⟨rfl, Nat.le_refl _, fun _ _ => rfl⟩
theorem MStep.trans {A B C : Mem} (h : MStep A B) (k : MStep B C) : MStep A C := ⟨k.base.trans h.base, Nat.le_trans h.size k.size, fun b hb => (k.ro b (h.base ▸ hb)).trans (h.ro b hb)⟩
theorem MStep.ok {A B : Mem} (h : MStep A B) (hb : A.base ≤ A.size) : B.base ≤ B.size := by have := h.base; have := h.size; omega
theorem MStep.push {M : Mem} (hb : M.base ≤ M.size) (o : AObj) : MStep M (M.push o) := ⟨rfl, by simp, fun b h => by rw [Mem.get_push, if_neg (by omega)]⟩
theorem MStep.set {M : Mem} {b : Nat} (hb : M.base ≤ b) (hs : b < M.size) (o : AObj) : MStep M (M.set b o) := ⟨rfl, by simp, fun c h => by rw [Mem.get_set _ _ _ hs, if_neg (by omega)]⟩
theorem storeN_step {M M' : Mem} {b off : Nat} {vs : List Value} (h : M.storeN b off vs = some M') : MStep M M' := by
 unfold Mem.storeN at h
 split at h
 ·rename_i hg
  split at h
  ·rename_i hc; cases h; exact .set hc.1 (Mem.lt_of_get hg) _
  ·cases h
 ·cases h
theorem storeQ_step {M M' : Mem} {b off : Nat} {vs : List Value} (h : M.storeQ b off vs = some M') : MStep M M' := by
 unfold Mem.storeQ at h
 split at h
 ·rename_i M2 hst
  cases h; exact storeN_step hst
 ·split at h
  ·cases h; exact .refl _
  ·cases h
theorem appendV_step {M M' : Mem} (hb : M.base ≤ M.size) {t : TypeId} {bytes size : Nat} {s x v : Value} (h : appendV M t bytes size s x = some (v, M')) : MStep M M' := by
 unfold appendV at h
 split at h
 ·split at h
  ·cases h; exact .refl _
  ·split at h
   ·cases h
   ·split at h
    ·split at h
     ·cases h; exact .push hb _
     ·split at h
      ·obtain ⟨M2, h1, h2⟩ := map_some h; cases h2; exact storeN_step h1
      ·obtain ⟨M2, h1, h2⟩ := map_some h; cases h2; exact .push hb _
     ·split at h
      ·rename_i hg
       split at h
       ·rename_i hc
        cases h
        exact (MStep.set hc.2.2.2 (Mem.lt_of_get hg) .dead).trans (.push (by simpa using hb) _)
       ·cases h
      ·cases h
    ·cases h
 ·cases h
theorem copyV_step {M M' : Mem} {size : Nat} {d s v : Value} (h : copyV M size d s = some (v, M')) : MStep M M' := by
 unfold copyV at h
 split at h
 ·simp only at h
  split at h
  ·cases h; exact .refl _
  ·split at h
   ·obtain ⟨M2, h1, h2⟩ := map_some h; cases h2; exact storeN_step h1
   ·cases h
 ·cases h
theorem uStrV_step {M M' : Mem} {u : TypeId} {n : Int} {p v : Value} (h : uStrV M u n p = some (v, M')) : MStep M M' := by
 unfold uStrV at h
 split at h
 ·split at h
  ·cases h; exact .refl _
  ·cases h
 ·split at h
  ·cases h; exact .refl _
  ·split at h
   ·rename_i hg
    split at h
    ·rename_i hc
     obtain ⟨M2, h1, h2⟩ := map_some h; cases h2
     exact .set hc.2.2.2.2 (Mem.lt_of_get hg) _
    ·cases h
   ·cases h
 ·cases h
theorem mapDel_step {M : Mem} {r : Nat} {es : List MapEntry} {clock : Nat} (hb : M.base ≤ r) (hs : r < M.size) (f : Option (Nat × Value)) : MStep M (mapDel M r es clock f) := by
 cases f with
 | none => exact .refl _
 | some p => exact .set hb hs _
set_option maxHeartbeats 2000000 in
theorem opSem_step {M M' : Mem} (hb : M.base ≤ M.size) {m : MOp} {t : List Value} {v : Value} (h : opSem m t M = some (v, M')) : MStep M M' := by
 have same : ∀ {x : Option Value}, x.map (fun v => (v, M)) = some (v, M') → MStep M M' := by
  intro x hx; obtain ⟨y, _, h2⟩ := map_some hx; cases h2; exact .refl _
 cases m <;> simp only [opSem] at h
 case val => cases h; exact .refl _
 case pick => split at h <;> cases h; exact .refl _
 case box => split at h <;> cases h; exact .push hb _
 case build => obtain ⟨y, _, h2⟩ := map_some h; cases h2; exact .refl _
 case lit => obtain ⟨y, _, h2⟩ := map_some h; cases h2; exact .push hb _
 case load =>
  split at h
  ·split at h
   ·obtain ⟨y, _, h2⟩ := map_some h; cases h2; exact .refl _
   ·exact same h
  ·cases h
 case store =>
  split at h
  ·split at h
   ·obtain ⟨y, h1, h2⟩ := map_some h; cases h2; exact storeQ_step h1
   ·cases h
  ·cases h
 case nilCheck => split at h <;> cases h <;> exact .refl _
 case bin => exact same h
 case un => exact same h
 case convI => split at h <;> cases h; exact .refl _
 case convS => split at h <;> cases h; exact .refl _
 case castP =>
  split at h
  ·split at h
   ·split at h <;> cases h; exact .refl _
   ·cases h
  ·cases h
 case mkIface => cases h; exact .refl _
 case mkFunc => cases h; exact .refl _
 case mkMap => cases h; exact .push hb _
 case mkSlice =>
  split at h
  ·split at h <;> cases h; exact .push hb _
  ·cases h
 case sliceS =>
  split at h
  rotate_left
  ·cases h
  obtain ⟨y, _, h2⟩ := map_some h; cases h2; exact .refl _
 case sliceL =>
  split at h
  rotate_left
  ·cases h
  simp only [Option.bind_eq_some_iff] at h
  obtain ⟨y, _, h2⟩ := h
  exact same h2
 case sliceA =>
  split at h
  rotate_left
  ·cases h
  obtain ⟨y, _, h2⟩ := map_some h; cases h2; exact .refl _
 case fieldAddr => split at h <;> cases h; exact .refl _
 case field =>
  split at h
  ·exact same h
  ·cases h
 case addrA =>
  split at h
  rotate_left
  ·cases h
  split at h <;> cases h; exact .refl _
 case addrL =>
  split at h
  rotate_left
  ·cases h
  split at h <;> cases h; exact .refl _
 case idxA =>
  split at h
  rotate_left
  ·cases h
  split at h
  ·exact same h
  ·cases h
 case idxS =>
  split at h
  rotate_left
  ·cases h
  split at h
  rotate_left
  ·cases h
  obtain ⟨y, _, h2⟩ := map_some h; cases h2; exact .refl _
 case lookup =>
  split at h
  ·split at h <;> cases h; exact .refl _
  ·split at h
   ·split at h
    ·cases h
    ·obtain ⟨y, _, h2⟩ := map_some h; cases h2; exact .refl _
   ·cases h
  ·cases h
 case mapUpd =>
  split at h
  rotate_left
  ·cases h
  split at h
  rotate_left
  ·cases h
  rename_i hg
  split at h
  rotate_left
  ·cases h
  rename_i hc
  obtain ⟨y, _, h2⟩ := map_some h; cases h2; exact .set hc.1 (Mem.lt_of_get hg) _
 case rangeS => split at h <;> cases h; exact .push hb _
 case rangeM =>
  split at h
  ·cases h; exact .push hb _
  ·split at h
   ·cases h; exact .push hb _
   ·cases h; exact .push hb _
   ·cases h
  ·cases h
 case entryM =>
  split at h
  ·split at h
   ·split at h
    ·split at h
     ·obtain ⟨y, _, h2⟩ := map_some h; cases h2; exact .refl _
     ·cases h
    ·cases h
   ·cases h
  ·cases h
 case nextM =>
  split at h
  ·split at h
   ·cases h; exact .refl _
   ·split at h
    ·cases h; exact .refl _
    ·cases h
   ·cases h
  ·cases h
 case never => cases h
 case nextS =>
  split at h
  rotate_left
  ·cases h
  split at h
  rotate_left
  ·cases h
  rename_i hg
  split at h
  ·split at h
   ·rename_i hc
    cases h; exact .set hc (Mem.lt_of_get hg) _
   ·cases h
  ·cases h; exact .refl _
 case extract =>
  split at h
  ·exact same h
  ·cases h
 case call => cases h
 case ident => cases h; exact .refl _
 case appZ =>
  split at h
  ·split at h
   ·cases h; exact .push hb _
   ·cases h
  ·cases h
 case noZero =>
  split at h
  ·split at h
   ·cases h; exact .push hb _
   ·cases h
  ·cases h
 case append =>
  split at h
  ·exact appendV_step hb h
  ·cases h
 case copy => exact copyV_step h
 case lenA => cases h; exact .refl _
 case len =>
  split at h
  ·cases h; exact .refl _
  ·cases h; exact .refl _
  ·cases h; exact .refl _
  ·cases h; exact .refl _
  ·split at h <;> cases h; exact .refl _
  ·cases h
 case capA => cases h; exact .refl _
 case cap => exact same h
 case minmax => exact same h
 case delete =>
  split at h
  rotate_left
  ·cases h
  split at h
  rotate_left
  ·cases h
  rename_i hg
  split at h
  rotate_left
  ·cases h
  rename_i hc
  obtain ⟨y, _, h2⟩ := map_some h; cases h2; exact mapDel_step hc.1 (Mem.lt_of_get hg) _
 case sliceData => exact same h
 case uString =>
  split at h
  ·exact uStrV_step h
  ·cases h
 case ptrU =>
  split at h
  rotate_left
  ·cases h
  split at h
  rotate_left
  ·cases h
  split at h <;> cases h; exact .refl _
 case boxD => cases h; exact .push hb _
 case fill =>
  split at h
  rotate_left
  ·cases h
  split at h
  rotate_left
  ·cases h
  rename_i hg
  split at h <;> cases h
  rename_i hc
  exact .set hc.1 (Mem.lt_of_get hg) _
theorem opSem_pure {M M' : Mem} {m : MOp} (hp : pureOp m = true) {t : List Value} {v : Value} (h : opSem m t M = some (v, M')) : M' = M ∧ ∀ N, opSem m t N = some (v, N) := by
 have same : ∀ {x : Option Value}, x.map (fun v => (v, M)) = some (v, M') → M' = M ∧ ∀ N : Mem, x.map (fun v => (v, N)) = some (v, N) := by
  intro x hx; obtain ⟨y, h1, h2⟩ := map_some hx; cases h2; exact ⟨rfl, fun N => by rw [h1]; rfl⟩
 cases m <;> simp [pureOp] at hp <;> simp only [opSem] at h ⊢
 case val => cases h; exact ⟨rfl, fun _ => rfl⟩
 case pick c x y =>
  generalize ev t c = cv at h ⊢
  split at h
  ·cases h; exact ⟨rfl, fun _ => rfl⟩
  ·cases h
 case build => obtain ⟨y, h1, h2⟩ := map_some h; cases h2; exact ⟨rfl, fun N => by rw [h1]; rfl⟩
 case nilCheck x =>
  generalize ev t x = xv at h ⊢
  split at h <;> cases h <;> exact ⟨rfl, fun _ => rfl⟩
 case bin => exact same h
 case un => exact same h
 case convI k x =>
  generalize ev t x = xv at h ⊢
  split at h <;> cases h; exact ⟨rfl, fun _ => rfl⟩
 case convS x =>
  generalize ev t x = xv at h ⊢
  split at h <;> cases h; exact ⟨rfl, fun _ => rfl⟩
 case mkIface => cases h; exact ⟨rfl, fun _ => rfl⟩
 case mkFunc => cases h; exact ⟨rfl, fun _ => rfl⟩
 case sliceS x lo hi =>
  generalize ev t x = xv at h ⊢
  split at h
  ·obtain ⟨y, h1, h2⟩ := map_some h; cases h2; exact ⟨rfl, fun N => by rw [h1]; rfl⟩
  ·cases h
 case sliceL size x lo hi mx =>
  generalize ev t x = xv at h ⊢
  split at h
  ·simp only [Option.bind_eq_some_iff] at h
   obtain ⟨y, h1, h2⟩ := h
   obtain ⟨e1, e2⟩ := same h2
   exact ⟨e1, fun N => by rw [h1]; exact e2 N⟩
  ·cases h
 case sliceA n size x lo hi mx =>
  generalize ev t x = xv at h ⊢
  split at h
  ·obtain ⟨y, h1, h2⟩ := map_some h; cases h2; exact ⟨rfl, fun N => by rw [h1]; rfl⟩
  ·cases h
 case fieldAddr off x =>
  generalize ev t x = xv at h ⊢
  split at h <;> cases h; exact ⟨rfl, fun _ => rfl⟩
 case field n off x =>
  generalize ev t x = xv at h ⊢
  split at h
  ·exact same h
  ·cases h
 case addrA len size x i =>
  generalize ev t x = xv at h ⊢
  generalize ev t i = iv at h ⊢
  split at h
  ·split at h <;> cases h; rename_i hc; exact ⟨rfl, fun _ => by rw [if_pos hc]⟩
  ·cases h
 case addrL size x i =>
  generalize ev t x = xv at h ⊢
  generalize ev t i = iv at h ⊢
  split at h
  ·split at h <;> cases h; rename_i hc; exact ⟨rfl, fun _ => by rw [if_pos hc]⟩
  ·cases h
 case idxA len n size x i =>
  generalize ev t x = xv at h ⊢
  generalize ev t i = iv at h ⊢
  split at h
  ·split at h
   ·rename_i hc
    obtain ⟨e1, e2⟩ := same h
    exact ⟨e1, fun N => by rw [if_pos hc]; exact e2 N⟩
   ·cases h
  ·cases h
 case idxS x i =>
  generalize ev t x = xv at h ⊢
  generalize ev t i = iv at h ⊢
  split at h
  ·split at h
   ·rename_i hc
    obtain ⟨y, h1, h2⟩ := map_some h; cases h2; exact ⟨rfl, fun N => by rw [if_pos hc, h1]; rfl⟩
   ·cases h
  ·cases h
 case extract x i =>
  generalize ev t x = xv at h ⊢
  split at h
  ·exact same h
  ·cases h
 case ident => cases h; exact ⟨rfl, fun _ => rfl⟩
 case lenA => cases h; exact ⟨rfl, fun _ => rfl⟩
 case len kd x =>
  generalize ev t x = xv at h ⊢
  match kd, hp with
  | 0, _ => cases xv <;> simp only at h <;> try (cases h; done)
            cases h; exact ⟨rfl, fun _ => rfl⟩
  | 1, _ => cases xv <;> first
        | (cases h; done)
        | (cases h; exact ⟨rfl, fun _ => rfl⟩)
        | (rename_i o; cases o <;> first | (cases h; done) | (cases h; exact ⟨rfl, fun _ => rfl⟩))
 case capA => cases h; exact ⟨rfl, fun _ => rfl⟩
 case cap => exact same h
 case minmax => exact same h
def CallStep (call : CallF) : Prop := ∀ v args M r M', M.base ≤ M.size → call v args M = some (r, M') → MStep M M'
theorem stepVal_step {call : CallF} (CS : CallStep call) {o : MOper} {t : List Value} {M M' : Mem} (hb : M.base ≤ M.size) {v : Value} (h : stepVal call o t M = some (v, M')) : MStep M M' := by
 unfold stepVal at h
 split at h
 ·split at h
  ·exact CS _ _ _ _ _ hb h
  ·exact opSem_step hb h
 ·unfold offV at h
  split at h
  ·cases h
  ·cases h; exact .refl _
theorem stepQ_step {call : CallF} (CS : CallStep call) {o : MOper} {t : List Value} {M M' : Mem} (hb : M.base ≤ M.size) {v : Value} (h : stepQ call o t M = some (v, M')) : MStep M M' := by
 unfold stepQ at h
 split at h
 ·obtain ⟨⟨v2, M2⟩, h1, h2⟩ := map_some h
  cases h2
  have := stepVal_step CS (M := M.freeze) (by simp) h1
  exact ⟨rfl, this.size, fun b hb' => by simpa using this.ro b (by simp; omega)⟩
 ·exact stepVal_step CS hb h
theorem stepQ_quiet {call : CallF} (CS : CallStep call) {o : MOper} {t : List Value} (hq : o.q = 1 ∨ (o.q = 3 ∧ killOp o t = false)) {M M' : Mem} {v : Value} (h : stepQ call o t M = some (v, M')) : (∀ b, b < M.size → M'.get b = M.get b) ∧ ∃ M2, stepVal call o t M.freeze = some (v, M2) ∧ M' = M2.thaw M.base := by
 unfold stepQ at h
 rw [if_pos hq] at h
 obtain ⟨⟨v2, M2⟩, h1, h2⟩ := map_some h
 cases h2
 have := stepVal_step CS (M := M.freeze) (by simp) h1
 exact ⟨fun b hb => by simpa using this.ro b (by simpa using hb), M2, h1, rfl⟩
theorem killOp_spec {o : MOper} {t : List Value} (h : killOp o t = true) : ∃ ty bytes size str s x b off len cap n, o.op = .append ty bytes size str s x ∧ guardOk t o.guard = true ∧ ev t s = .slice (some ⟨b, off, none⟩) len cap ∧ lenV (ev t x) = some (n + 1) := by
 unfold killOp at h
 split at h
 ·rename_i ty bytes size str s x hop
  rw [Bool.and_eq_true] at h
  obtain ⟨hg, h⟩ := h
  split at h
  ·rename_i b off len cap n h1 h2
   exact ⟨ty, bytes, size, str, s, x, b, off, len, cap, n, hop, hg, h1, h2⟩
  ·cases h
 ·cases h
theorem append_kill {M M' : Mem} {ty : TypeId} {bytes size : Nat} {x v : Value} {b off len cap n : Nat} (hn : lenV x = some (n + 1)) (h : appendV M ty bytes size (.slice (some ⟨b, off, none⟩) len cap) x = some (v, M')) :
  M.base ≤ b ∧ b < M.size ∧ (∃ o, M' = (M.set b .dead).push o) ∧ ∃ c t, M.get b = some (.cells c t true) := by
 unfold appendV at h
 simp only [hn] at h
 rw [if_neg (by omega)] at h
 split at h
 ·cases h
 ·split at h
  ·split at h
   ·rename_i c t' hg
    split at h
    ·rename_i hc
     cases h
     exact ⟨hc.2.2.2, Mem.lt_of_get hg, ⟨_, rfl⟩, c, t', hg⟩
    ·cases h
   ·cases h
  ·cases h
theorem stepQ_kill {call : CallF} {o : MOper} (hq : o.q = 3) {t : List Value} (hk : killOp o t = true) {M M' : Mem} {v : Value} (h : stepQ call o t M = some (v, M')) :
  opSem o.op t M = some (v, M') ∧ ∃ b c ty, M.base ≤ b ∧ b < M.size ∧ M.get b = some (.cells c ty true) ∧ (∃ x, M' = (M.set b .dead).push x) ∧ (∃ ty bytes size str s x off len cap n, o.op = .append ty bytes size str s x ∧ guardOk t o.guard = true ∧ ev t s = .slice (some ⟨b, off, none⟩) len cap ∧ lenV (ev t x) = some (n + 1)) := by
 unfold stepQ at h
 rw [if_neg (by rw [hk]; rintro (h | ⟨_, h⟩); omega; cases h)] at h
 obtain ⟨ty, bytes, size, str, s, x, b, off, len, cap, n, hop, hg, h1, h2⟩ := killOp_spec hk
 have h3 : opSem o.op t M = some (v, M') := by
  unfold stepVal at h
  rw [if_pos hg] at h
  rw [hop] at h ⊢
  exact h
 refine ⟨h3, b, ?_⟩
 rw [hop] at h3
 simp only [opSem] at h3
 split at h3
 ·rw [h1] at h3
  obtain ⟨a1, a2, a3, c, t', a4⟩ := append_kill h2 h3
  exact ⟨c, t', a1, a2, a4, a3, ty, bytes, size, str, s, x, off, len, cap, n, hop, hg, h1, h2⟩
 ·cases h3
theorem stepQ_pure {call : CallF} {o : MOper} (hq : o.q = 0) (hp : pureOp o.op = true) {t : List Value} {M M' : Mem} {v : Value} (h : stepQ call o t M = some (v, M')) : M' = M ∧ ∀ N, stepVal call o t N = some (v, N) := by
 unfold stepQ at h
 rw [if_neg (by omega)] at h
 unfold stepVal at h ⊢
 split at h
 ·rename_i hg
  simp only [hg, if_true]
  split at h
  ·rename_i hc; rw [hc] at hp; cases hp
  ·exact opSem_pure hp h
 ·rename_i hg
  simp only [hg]
  unfold offV at h ⊢
  split at h
  ·cases h
  ·rename_i hj
   cases h
   exact ⟨rfl, fun _ => by simp [hj]⟩
theorem runOps_step {call : CallF} (CS : CallStep call) : ∀ {l : List MOper} {t t' : List Value} {M M' : Mem}, M.base ≤ M.size → runOps call l t M = some (t', M') → MStep M M'
 | [], t, t', M, M', _, h => by simp [runOps] at h; rw [h.2]; exact .refl _
 | o :: os, t, t', M, M', hb, h => by
  simp only [runOps] at h
  split at h
  ·rename_i v M2 h1
   have s1 := stepQ_step CS hb h1
   exact s1.trans (runOps_step CS (s1.ok hb) h)
  ·cases h
theorem endRange_step {l : Nat} {t : List Value} {ds : List Nat} {M : Mem} {x : XE} {s : St} (h : endRange l t ds M = some (x, s)) : MStep M s.M := by
 unfold endRange at h
 split at h
 ·rename_i hg
  split at h
  ·rename_i hc; cases h; exact .set hc.1 (Mem.lt_of_get hg) _
  ·cases h
 ·cases h
theorem loopN_step {f : St → Option (XE × St)} (hf : ∀ s x s', s.M.base ≤ s.M.size → f s = some (x, s') → MStep s.M s'.M) : ∀ (n : Nat) (s s' : St) (x : XE), s.M.base ≤ s.M.size → loopN f n s = some (x, s') → MStep s.M s'.M
 | 0, s, s', x, _, h => by simp [loopN] at h
 | n + 1, s, s', x, hb, h => by
  simp only [loopN] at h
  split at h
  ·rename_i s2 h1
   have s1 := hf _ _ _ hb h1
   exact s1.trans (loopN_step hf n _ _ _ (s1.ok hb) h)
  ·exact hf _ _ _ hb h
theorem pad_step : ∀ (n : Nat) (M : Mem), M.base ≤ M.size → MStep M (Mem.pad n M)
 | 0, M, _ => .refl _
 | n + 1, M, hb => (MStep.push hb _).trans (pad_step n _ ((MStep.push hb _).ok hb))
theorem iterAt_get {t : List Value} {M : Mem} {it r : Nat} {o : AObj} (h : iterAt t M it = some (r, o)) : t.getD it undef = .pointer (some ⟨r, 0, none⟩) ∧ M.get r = some o := by
 unfold iterAt at h
 split at h
 ·rename_i r' hr
  obtain ⟨o', h1, h2⟩ := map_some h
  cases h2
  exact ⟨hr, h1⟩
 ·cases h
theorem mapEnd_step {run : St → Option (XE × St)} {it nx ok id fuel : Nat} {s s' : St} {x : XE} (hb : s.M.base ≤ s.M.size) (h : mapEnd run it nx ok id fuel s = some (x, s')) : MStep s.M s'.M := by
 unfold mapEnd at h
 split at h
 ·split at h
  ·cases h; exact .refl _
  ·cases h
 ·split at h
  ·split at h
   ·cases h; exact .refl _
   ·cases h
  ·cases h
 ·rename_i hit
  split at h
  ·split at h
   ·rename_i hc
    cases h
    have hs : MStep s.M (s.M.set _ .dead) := MStep.set hc.1 (Mem.lt_of_get (iterAt_get hit).2) .dead
    exact hs.trans (pad_step _ _ (hs.ok hb))
   ·cases h
  ·cases h
 ·cases h
theorem exec_step {call : CallF} (CS : CallStep call) (n : Nat) (ar : Option Nat) : ∀ (c : MCode) (s s' : St) (x : XE), s.M.base ≤ s.M.size → exec call n ar c s = some (x, s') → MStep s.M s'.M
 | .skip, s, s', x, hb, h => by simp [exec] at h; rw [← h.2]; exact .refl _
 | .region d ops, s, s', x, hb, h => by
  simp only [exec] at h
  split at h
  ·rename_i t M h1; cases h; exact runOps_step CS hb h1
  ·cases h
 | .seq a b, s, s', x, hb, h => by
  simp only [exec] at h
  split at h
  ·rename_i s2 h1
   have s1 := exec_step CS n ar a _ _ _ hb h1
   exact s1.trans (exec_step CS n ar b _ _ _ (s1.ok hb) h)
  ·exact exec_step CS n ar a _ _ _ hb h
 | .cond c a b, s, s', x, hb, h => by
  simp only [exec] at h
  split at h
  ·exact exec_step CS n ar a _ _ _ hb h
  ·exact exec_step CS n ar b _ _ _ hb h
  ·cases h
 | .block id c, s, s', x, hb, h => by
  simp only [exec] at h
  split at h
  ·rename_i i s2 h1
   have s1 := exec_step CS n ar c _ _ _ hb h1
   split at h <;> cases h <;> exact s1
  ·exact exec_step CS n ar c _ _ _ hb h
 | .loop c, s, s', x, hb, h => by
  simp only [exec] at h
  exact loopN_step (fun s x s' hb h => exec_step CS n ar c s s' x hb h) n s s' x hb h
 | .loopM it nx ok id c, s, s', x, hb, h => by
  simp only [exec] at h
  exact mapEnd_step hb h
 | .exit id, s, s', x, hb, h => by simp [exec] at h; rw [← h.2]; exact .refl _
 | .ret, s, s', x, hb, h => by simp [exec] at h; rw [← h.2]; exact .refl _
 | .rangeFunc f ps as bd, s, s', x, hb, h => by
  simp only [exec] at h
  split at h
  rotate_left
  ·cases h
  split at h
  ·split at h
   ·rename_i v M' h1
    have s1 : MStep s.M ((s.M.push .dblk).push (.loop .ready none s.t ps as bd s.M.size)) := (MStep.push hb _).trans (.push (by simp; omega) _)
    have s2 := CS _ _ _ _ _ (s1.ok hb) h1
    exact (s1.trans s2).trans (endRange_step h)
   ·cases h
  ·split at h
   ·rename_i st pend tm ps2 as2 bd2 d hg
    split at h
    ·rename_i v M' h1
     have s1 : MStep s.M (s.M.push (.loop .ready none s.t ps as bd d)) := .push hb _
     have s2 := CS _ _ _ _ _ (s1.ok hb) h1
     exact (s1.trans s2).trans (endRange_step h)
    ·cases h
   ·cases h
theorem killAll_step : ∀ (ds : List Nat) (M M' : Mem), killAll M ds = some M' → MStep M M'
 | [], M, M', h => by simp [killAll] at h; subst h; exact .refl _
 | d :: ds, M, M', h => by
  simp only [killAll] at h
  split at h
  ·rename_i hg
   split at h
   ·rename_i hb; exact (MStep.set hb (Mem.lt_of_get hg) .dead).trans (killAll_step ds _ _ h)
   ·cases h
  ·cases h
theorem retV_step {m : MFunc} {s : St} {r : Value} {M' : Mem} (h : retV m s = some (r, M')) : MStep s.M M' := by
 unfold retV at h
 simp only [Option.bind_eq_some_iff] at h
 obtain ⟨M2, h1, h2⟩ := h
 obtain ⟨vs, _, h3⟩ := map_some h2
 cases h3
 exact killAll_step _ _ _ h1
theorem roundV_step {call : CallF} (CS : CallStep call) {n l : Nat} {args : List Value} {M M' : Mem} (hb : M.base ≤ M.size) {r : Value} (h : roundV call n l args M = some (r, M')) : MStep M M' := by
 unfold roundV at h
 split at h
 ·split at h
  ·rename_i hc
   split at h
   ·rename_i s1 h1
    have m1 := exec_step CS n _ _ _ _ _ hb h1
    have b1 := m1.ok hb
    split at h
    ·rename_i p1 tm1 ps1 as1 bd1 d1 hg
     have hl1 : s1.M.base ≤ l := by rw [m1.base]; exact hc.2
     have m2 : MStep s1.M (s1.M.set l (.loop .busy p1 tm1 ps1 as1 bd1 d1)) := MStep.set hl1 (Mem.lt_of_get hg) _
     split at h
     ·rename_i x s2 h2
      have m3 := exec_step CS n _ _ _ _ _ (by simpa using b1) h2
      split at h
      ·rename_i hg2
       have hl2 : s2.M.base ≤ l := by rw [m3.base, m2.base]; exact hl1
       have m123 := (m1.trans m2).trans m3
       split at h
       ·cases h; exact m123.trans (.set hl2 (Mem.lt_of_get hg2) _)
       ·cases h; exact m123.trans (.set hl2 (Mem.lt_of_get hg2) _)
      ·cases h
     ·cases h
    ·cases h
   ·cases h
  ·cases h
 ·cases h
theorem callN_step (F : Funs) (E : Orac) : ∀ n, CallStep (callN F E n)
 | 0 => fun v args M r M' _ h => by simp [callN] at h
 | n + 1 => fun v args M r M' hb h => by
  have ih := callN_step F E n
  simp only [callN] at h
  split at h
  ·split at h
   ·cases h; exact .refl _
   ·split at h
    ·split at h
     ·rename_i s h1
      exact (exec_step ih n none _ _ _ _ hb h1).trans (retV_step h)
     ·rename_i s h1
      exact (exec_step ih n none _ _ _ _ hb h1).trans (retV_step h)
     ·cases h
    ·cases h
  ·exact roundV_step ih hb h
  ·cases h
end Go.Proofs.Ytifemfnjoobiiaa.Run
