/- The code of a function, and its calls, do what this session's small code says. No statement of the program's is proved here. -/
import Derived.Test.YtifemfnjoobiiaaRunT
namespace Go.Proofs.Ytifemfnjoobiiaa.Run
open Go Go.RowKit
set_option linter.unusedVariables false
set_option linter.unusedSimpArgs false
section
variable {P : Program} {idf : FuncId → Bool} {call : CallF}
inductive ARel (φ : Loc) : Option Nat → Option Nat → Prop
 | none : ARel φ none none
 | some (l l' K : Nat) (h : φ l = some (l', K)) : ARel φ (some l) (some l')
inductive DRel (φ : Loc) : List Nat → List Deferred → Prop
 | nil : DRel φ [] []
 | cons (d c K : Nat) (h : φ d = some (c, K)) {ds : List Nat} {l : List Deferred} (t : DRel φ ds l) : DRel φ (d :: ds) ({ target := .collected c, args := #[] } :: l)
theorem ARel.mono {φ φ' : Loc} (he : ∀ b x, φ b = Option.some x → φ' b = Option.some x) {a b : Option Nat} (h : ARel φ a b) : ARel φ' a b := by
 cases h with
 | none => exact .none
 | some l l' K h => exact .some l l' K (he _ _ h)
theorem DRel.mono {φ φ' : Loc} (he : ∀ b x, φ b = some x → φ' b = some x) {a : List Nat} {b : List Deferred} (h : DRel φ a b) : DRel φ' a b := by
 induction h with
 | nil => exact .nil
 | cons d c K h _ ih => exact .cons d c K (he _ _ h) ih
def XE.out : XE → Exit
 | .normal => .normal
 | .exit id => .exit id
 | .ret => .ret
theorem range_end {φ₀ φ : Loc} {M₀ M : Mem} {w₀ w : World} (h : Rep P idf φ M w) {l l' K : Nat} (hl : φ l = some (l', K)) {t : List Value} {ds : List Nat} {x : XE} {s' : St} (he : endRange l t ds M = some (x, s')) :
  s'.t = t ∧ s'.ds = ds ∧ ∃ jump w', (Instr.endLoop l').run P w = .ok jump w' ∧ jump = x.code ∧ Rep P idf φ s'.M w' ∧ Stp φ M w φ s'.M w' := by
 unfold endRange at he
 split at he
 ·rename_i st pend tm ps as bd d hg
  split at he
  ·rename_i hc
   obtain ⟨hbase, hbusy⟩ := hc
   simp only [Option.some.injEq, Prod.mk.injEq] at he
   obtain ⟨rfl, rfl⟩ := he
   refine ⟨rfl, rfl, ?_⟩
   obtain ⟨o, o', g1, g2, g3⟩ := h.obj l l' K hl
   rw [hg] at g1; cases g1
   cases g3 with
   | loop _ _ _ _ _ _ _ r d' K' hs hp hne ht hps ha hb hd hdd =>
    have hrun := run_endLoop (P := P) g2 (by rw [hs]; exact hbusy)
    obtain ⟨p1, p2⟩ := h.put hl hbase (o := .loop .exhausted pend tm ps as bd d) (o' := .loop { r with state := .exhausted }) (by rw [hg]; simp)
     (.loop _ _ _ _ _ _ _ _ d' K' rfl hp hne ht hps ha hb hd hdd)
    refine ⟨r.pending, _, hrun, ?_, p1, p2⟩
    rw [hp]
    cases pend with
    | none => rfl
    | some y => cases y <;> first | rfl | exact absurd rfl hne
  ·cases he
 ·cases he
theorem isFn_inv {φ : Loc} {v v' : Value} (h : VRel φ v v') (hf : isFn v = true) : ∃ f a b, v' = .func (.func f) a b := by
 cases h <;> first | exact ⟨_, _, _, rfl⟩ | cases hf
def GoodC (P : Program) (idf : FuncId → Bool) (call : CallF) (n : Nat) (c : Code) : Prop := ∀ (m : MCode), compC P idf c = some m → ∀ (ar r : Option Nat) (φ : Loc) (s s' : St) (x : XE) (a : Act) (w : World) (Q : Exit → Act → World → Prop),
  exec call n ar m s = some (x, s') → ARel φ ar r → LRel φ s.t a.tmps.toList → DRel φ s.ds a.defers → Rep P idf φ s.M w →
  (∀ φ' a' w', LRel φ' s'.t a'.tmps.toList → DRel φ' s'.ds a'.defers → Rep P idf φ' s'.M w' → Stp φ s.M w φ' s'.M w' → Q x.out a' w') → c.wpIn (fenceAt r) 0 P Q a w
theorem map_rounds {B : Code} {n : Nat} (G : GoodC P idf call n B) {mb : MCode} (hB : compC P idf B = some mb) {it nx ok : Tmp} {id rid : Nat} {o1 o2 : Oper} {ar r : Option Nat} {Q : Exit → Act → World → Prop} {ops : Array Oper} (hops : ops.toList = [o1, o2]) (d1 : o1.dst = some nx) (p1 : o1.op = .next (.tmp it) false) (g1 : o1.guard = none) (d2 : o2.dst = some ok) (p2 : o2.op = .extract (.tmp nx) 0) (g2 : o2.guard = none) (hne : nx ≠ it ∧ ok ≠ it ∧ ok ≠ nx) :
  ∀ (k : Nat) (s : St) (l : List St) (φ : Loc) (a : Act) (w : World), mapAll (exec call n ar mb) it nx ok k s = some l → ARel φ ar r → LRel φ s.t a.tmps.toList → DRel φ s.ds a.defers → Rep P idf φ s.M w →
   (∀ f ∈ l, ∀ φ' a' w', LRel φ' f.t a'.tmps.toList → DRel φ' f.ds a'.defers → Rep P idf φ' f.M w' → Stp φ s.M w φ' f.M w' → Q (.exit id) a' w') →
   Code.roundsIn (fenceAt r) 0 P (.seq (.region rid ops false) (.seq (.cond (.tmp ok) .skip (.exit id)) B)) Q (k + 1) a w := by
 intro k
 induction k with
 | zero =>
  intro s l φ a w hm hA ht hd h hQ
  simp only [mapAll] at hm
  rw [roundsIn_succ]
  refine map_round hops d1 p1 g1 d2 p2 g2 hne hm ht h (fun a' h1 h2 hl => hQ _ hl φ a' w h1 (by rw [h2]; exact hd) h (Stp.refl _ _ _)) fun s1 l1 hgo => ?_
  cases hgo
 | succ k ih =>
  intro s l φ a w hm hA ht hd h hQ
  simp only [mapAll] at hm
  rw [roundsIn_succ]
  refine map_round hops d1 p1 g1 d2 p2 g2 hne hm ht h (fun a' h1 h2 hl => hQ _ hl φ a' w h1 (by rw [h2]; exact hd) h (Stp.refl _ _ _)) fun s1 l1 hgo hsub hds a' w' h1 h2 h3 h4 => ?_
  split at hgo
  ·rename_i s2 he
   refine G mb hB ar r φ s1 s2 .normal a' w' _ he (hA.mono h4.ext) h1 (by rw [hds, h2]; exact hd) h3 fun φ2 a2 w2 q1 q2 q3 q4 => ?_
   exact ih s2 l1 φ2 a2 w2 hgo (hA.mono (h4.trans q4).ext) q1 q2 q3 fun f hf φ3 a3 w3 z1 z2 z3 z4 => hQ f (hsub f hf) φ3 a3 w3 z1 z2 z3 ((h4.trans q4).trans z4)
  ·cases hgo
theorem mapLoop_some {c : Code} {it nx ok : Tmp} {id : Nat} (h : mapLoop c = some (it, nx, ok, id)) : ∃ rid ops o1 o2 B, c = .seq (.region rid ops false) (.seq (.cond (.tmp ok) .skip (.exit id)) B) ∧ ops.toList = [o1, o2] ∧ o1.dst = some nx ∧ o1.op = .next (.tmp it) false ∧ o1.guard = none ∧ o2.dst = some ok ∧ o2.op = .extract (.tmp nx) 0 ∧ o2.guard = none ∧ (nx ≠ it ∧ ok ≠ it ∧ ok ≠ nx) := by
 unfold mapLoop at h
 split at h
 ·rename_i rid ops ok' id' B
  simp only [Option.bind_eq_some_iff] at h
  obtain ⟨⟨it1, nx1, ok1⟩, h1, h2⟩ := h
  simp only at h2
  split at h2
  ·rename_i hok
   subst hok
   cases h2
   unfold mapHead at h1
   split at h1
   ·rename_i e
    split at h1
    ·rename_i hc
     obtain ⟨rfl, h3⟩ := hc
     cases h1
     exact ⟨rid, ops, _, _, B, rfl, e, rfl, rfl, rfl, rfl, rfl, rfl, h3⟩
    ·cases h1
   ·cases h1
  ·cases h2
 ·cases h
theorem code_sound3 (hmo : P.follows .mixedOrders = true) (CO : CallOK P idf call) (CS : CallStep call) (ID : IdOK P idf) (n : Nat) : ∀ (c : Code), GoodC P idf call n c ∧ (∀ x y, c = .seq x y → GoodC P idf call n y) ∧ (∀ x y z, c = .seq x (.seq y z) → GoodC P idf call n z) := by
 intro c
 induction c with
 | skip =>
  refine ⟨?_, (by intro x y h; cases h), (by intro x y z h; cases h)⟩
  intro m hc ar r φ s s' x a w Q he hA ht hd h hQ
  cases hc
  simp only [exec, Option.some.injEq, Prod.mk.injEq] at he
  obtain ⟨rfl, rfl⟩ := he
  exact wpIn_skip (hQ φ a w ht hd h (Stp.refl _ _ _))
 | region id ops draw =>
  refine ⟨?_, (by intro x y h; cases h), (by intro x y z h; cases h)⟩
  intro m hc ar r φ s s' x a w Q he hA ht hd h hQ
  simp only [compC] at hc
  obtain ⟨ms, hms, rfl⟩ := map_some hc
  have plain : ∀ d : Bool, exec call n ar (.region d ms) s = some (x, s') → (Code.region id ops draw).wpIn (fenceAt r) 0 P Q a w := fun d he => by
   simp only [exec] at he
   split at he
   ·rename_i t M hr
    simp only [Option.some.injEq, Prod.mk.injEq] at he
    obtain ⟨rfl, rfl⟩ := he
    exact region_sound hmo CO CS ID hms hr ht h fun φ' a' w' g1 g2 g3 g4 => hQ φ' a' w' g1 (by rw [g2]; exact hd.mono g4.ext) g3 g4
   ·cases he
  cases draw with
  | false => exact plain false he
  | true =>
   simp only [if_true] at he
   unfold fluxC at he
   split at he
   ·exact plain true he
   ·rename_i hcond
    simp only [Bool.or_eq_true, not_or, Bool.not_eq_true, Bool.not_eq_false'] at hcond
    obtain ⟨⟨_, hq01⟩, huq⟩ := hcond
    simp only [exec] at he
    cases hr : runOps call (fluxed (fluxes ops.toList ms) ms) s.t s.M with
    | none => rw [hr] at he; cases he
    | some p =>
     obtain ⟨t1, M1⟩ := p
     rw [hr] at he
     simp only at he
     cases hr2 : runOps call (lates (fluxes ops.toList ms)) t1 M1 with
     | none => rw [hr2] at he; cases he
     | some p2 =>
      obtain ⟨t2, M2⟩ := p2
      rw [hr2] at he
      simp only [Option.some.injEq, Prod.mk.injEq] at he
      obtain ⟨rfl, rfl⟩ := he
      exact flux_sound hmo CO CS ID hms hq01 huq hr hr2 ht h fun φ' a' w' g1 g2 g3 g4 => hQ φ' a' w' g1 (by rw [g2]; exact hd.mono g4.ext) g3 g4
 | seq c1 c2 ih1 ih2 =>
  refine ⟨?_, (by intro x y h; cases h; exact ih2.1), (by intro x y z h; cases h; exact ih2.2.1 _ _ rfl)⟩
  intro m hc ar r φ s s' x a w Q he hA ht hd h hQ
  simp only [compC, Option.bind_eq_some_iff] at hc
  obtain ⟨m1, h1, hc⟩ := hc
  obtain ⟨m2, h2, rfl⟩ := map_some hc
  simp only [exec] at he
  refine wpIn_seq ?_
  split at he
  ·rename_i s1 e1
   refine ih1.1 m1 h1 ar r φ s s1 .normal a w _ e1 hA ht hd h fun φ' a' w' g1 g2 g3 g4 => ?_
   exact ih2.1 m2 h2 ar r φ' s1 s' x a' w' Q he (hA.mono g4.ext) g1 g2 g3 fun φ2 a2 w2 k1 k2 k3 k4 => hQ φ2 a2 w2 k1 k2 k3 (g4.trans k4)
  ·rename_i q hne
   refine ih1.1 m1 h1 ar r φ s s' x a w _ he hA ht hd h fun φ' a' w' g1 g2 g3 g4 => ?_
   have := hQ φ' a' w' g1 g2 g3 g4
   cases x with
   | normal => exact absurd he (hne _)
   | exit id => exact this
   | ret => exact this
 | cond cv c1 c2 ih1 ih2 =>
  refine ⟨?_, (by intro x y h; cases h), (by intro x y z h; cases h)⟩
  intro m hc ar r φ s s' x a w Q he hA ht hd h hQ
  simp only [compC] at hc
  split at hc
  ·rename_i hok
   simp only [Option.bind_eq_some_iff] at hc
   obtain ⟨m1, h1, hc⟩ := hc
   obtain ⟨m2, h2, rfl⟩ := map_some hc
   have hcv := ev_rel ht hok
   simp only [exec] at he
   split at he
   ·rename_i hb
    rw [hb] at hcv
    generalize hce : a.eval cv = y at hcv
    cases hcv
    exact wpIn_cond_true hce (ih1.1 m1 h1 ar r φ s s' x a w Q he hA ht hd h hQ)
   ·rename_i hb
    rw [hb] at hcv
    generalize hce : a.eval cv = y at hcv
    cases hcv
    exact wpIn_cond_false hce (ih2.1 m2 h2 ar r φ s s' x a w Q he hA ht hd h hQ)
   ·cases he
  ·cases hc
 | block id c1 ih =>
  refine ⟨?_, (by intro x y h; cases h), (by intro x y z h; cases h)⟩
  intro m hc ar r φ s s' x a w Q he hA ht hd h hQ
  simp only [compC] at hc
  obtain ⟨m1, h1, rfl⟩ := map_some hc
  simp only [exec] at he
  refine wpIn_block ?_
  split at he
  ·rename_i i s1 e1
   refine ih.1 m1 h1 ar r φ s s1 (.exit i) a w _ e1 hA ht hd h fun φ' a' w' g1 g2 g3 g4 => ?_
   show (if i = id then Q .normal a' w' else Q (.exit i) a' w')
   split at he
   ·rename_i hi
    simp only [Option.some.injEq, Prod.mk.injEq] at he
    obtain ⟨rfl, rfl⟩ := he
    rw [if_pos hi]
    exact hQ φ' a' w' g1 g2 g3 g4
   ·rename_i hi
    simp only [Option.some.injEq, Prod.mk.injEq] at he
    obtain ⟨rfl, rfl⟩ := he
    rw [if_neg hi]
    exact hQ φ' a' w' g1 g2 g3 g4
  ·rename_i q hne
   refine ih.1 m1 h1 ar r φ s s' x a w _ he hA ht hd h fun φ' a' w' g1 g2 g3 g4 => ?_
   have := hQ φ' a' w' g1 g2 g3 g4
   cases x with
   | normal => exact this
   | exit i => exact absurd he (hne _ _)
   | ret => exact this
 | loop c1 ih =>
  refine ⟨?_, (by intro x y h; cases h), (by intro x y z h; cases h)⟩
  intro m hc ar r φ s s' x a w Q he hA ht hd h hQ
  simp only [compC, Option.bind_eq_some_iff] at hc
  obtain ⟨m1, h1, hc⟩ := hc
  split at hc
  ·rename_i it nx ok id mR mC mb hml
   cases hc
   obtain ⟨rid, ops, o1, o2, B, rfl, hops, d1, p1, g1, d2, p2, g2, hne⟩ := mapLoop_some hml
   simp only [compC, Option.bind_eq_some_iff] at h1
   obtain ⟨x1, hx1, h1⟩ := h1
   obtain ⟨x2, hx2, hx3⟩ := map_some h1
   have hBm : compC P idf B = some mb := by
    split at hx2
    ·simp only [Option.bind_eq_some_iff] at hx2
     obtain ⟨x4, hx4, hx2⟩ := hx2
     obtain ⟨x5, hx5, hx6⟩ := map_some hx2
     subst hx6
     cases hx3
     exact hx5
    ·simp at hx2
   have GB : GoodC P idf call n B := ih.2.2 _ _ _ rfl
   simp only [exec] at he
   unfold mapEnd at he
   have hempty : ∀ (r0 : Nat) (o : AObj), iterAt s.t s.M it = some (r0, o) → (o = .miter none ∨ ∃ m0 cl, o = .miter (some m0) ∧ s.M.get m0 = some (.map [] cl)) → (nx < s.t.length ∧ ok < s.t.length) → some (XE.exit id, mapOver nx ok s) = some (x, s') → (Code.loop (.seq (.region rid ops false) (.seq (.cond (.tmp ok) .skip (.exit id)) B))).wpIn (fenceAt r) 0 P Q a w := by
    intro r0 o hit ho hlen he
    cases he
    exact wpIn_loop_rounds 1 (by rw [roundsIn_succ]; exact map_none hops d1 p1 g1 d2 p2 g2 hne hit ho hlen ht h fun φ' a' w' q1 q2 q3 q4 => hQ φ' a' w' q1 (by rw [q2]; exact hd.mono q4.ext) q3 q4)
   split at he
   ·rename_i r0 hit
    split at he
    ·rename_i hlen; exact hempty r0 _ hit (.inl rfl) hlen he
    ·cases he
   ·rename_i r0 m0 hit
    split at he
    ·rename_i cl hmm
     split at he
     ·rename_i hlen; exact hempty r0 _ hit (.inr ⟨m0, cl, rfl, hmm⟩) hlen he
     ·cases he
    ·cases he
   ·rename_i r0 m0 since seen last hit
    split at he
    ·rename_i f0 l hall
     split at he
     ·rename_i hcond
      cases he
      obtain ⟨hbase, hal⟩ := hcond
      refine wpIn_loop_rounds (n + 1) (map_rounds GB hBm hops d1 p1 g1 d2 p2 g2 hne n s (f0 :: l) φ a w hall hA ht hd h fun f hf φ' a' w' q1 q2 q3 q4 => ?_)
      have A := hal f hf
      have hsz := maxSize_le hf
      have hlt := Mem.lt_of_get (iterAt_get hit).2
      have hset : (s.M.set r0 .dead).size = s.M.size := rfl
      have hget : ∀ b, (Mem.pad (maxSize (f0 :: l) - s.M.size) (s.M.set r0 .dead)).get b = if b < s.M.size then (if b = r0 then some .dead else s.M.get b) else if b < s.M.size + (maxSize (f0 :: l) - s.M.size) then some .dead else none := fun b => by
       rw [pad_get, hset, Mem.get_set _ _ _ hlt]
      have hbs : (Mem.pad (maxSize (f0 :: l) - s.M.size) (s.M.set r0 .dead)).base = s.M.base := pad_base _ _
      have hss : (Mem.pad (maxSize (f0 :: l) - s.M.size) (s.M.set r0 .dead)).size = s.M.size + (maxSize (f0 :: l) - s.M.size) := pad_size _ _
      have hs4 := q4.size
      refine hQ φ' a' w' (meet_rel hf A.len A.hide q1) (by rw [← A.ds]; exact q2) (q3.hide (by rw [hbs, hss]; have := h.bs; omega) fun b hb => ?_) (q4.hide (by rw [hbs]; exact q4.base.symm) (by rw [hss]; omega) fun b hb => ?_)
      ·rw [hget b]
       by_cases c1 : b < s.M.size
       ·rw [if_pos c1]
        by_cases c2 : b = r0
        ·rw [if_pos c2]; exact .inr rfl
        ·rw [if_neg c2, A.old b c1 c2]; exact .inl rfl
       ·rw [if_neg c1, if_pos (by omega)]; exact .inr rfl
      ·rw [hget b, if_pos (by have := h.bs; omega), if_neg (by omega)]
     ·cases he
    ·cases he
   ·cases he
  ·cases hc
   rename_i m1 _ _ _
   simp only [exec] at he
   refine wpIn_loop_rounds n ?_
   have key : ∀ (k : Nat) (φ : Loc) (s : St) (a : Act) (w : World), loopN (exec call n ar m1) k s = some (x, s') → ARel φ ar r → LRel φ s.t a.tmps.toList → DRel φ s.ds a.defers → Rep P idf φ s.M w →
     (∀ φ' a' w', LRel φ' s'.t a'.tmps.toList → DRel φ' s'.ds a'.defers → Rep P idf φ' s'.M w' → Stp φ s.M w φ' s'.M w' → Q x.out a' w') → Code.roundsIn (fenceAt r) 0 P c1 Q k a w := by
    intro k
    induction k with
    | zero => intro φ s a w he; simp [loopN] at he
    | succ k ihk =>
     intro φ s a w he hA ht hd h hQ
     simp only [loopN] at he
     rw [roundsIn_succ]
     split at he
     ·rename_i s1 e1
      refine ih.1 m1 h1 ar r φ s s1 .normal a w _ e1 hA ht hd h fun φ' a' w' g1 g2 g3 g4 => ?_
      exact ihk φ' s1 a' w' he (hA.mono g4.ext) g1 g2 g3 fun φ2 a2 w2 k1 k2 k3 k4 => hQ φ2 a2 w2 k1 k2 k3 (g4.trans k4)
     ·rename_i q hne
      refine ih.1 m1 h1 ar r φ s s' x a w _ he hA ht hd h fun φ' a' w' g1 g2 g3 g4 => ?_
      have := hQ φ' a' w' g1 g2 g3 g4
      cases x with
      | normal => exact absurd he (hne _)
      | exit i => exact this
      | ret => exact this
   exact key n φ s a w he hA ht hd h hQ
 | exit id =>
  refine ⟨?_, (by intro x y h; cases h), (by intro x y z h; cases h)⟩
  intro m hc ar r φ s s' x a w Q he hA ht hd h hQ
  cases hc
  simp only [exec, Option.some.injEq, Prod.mk.injEq] at he
  obtain ⟨rfl, rfl⟩ := he
  exact wpIn_exit (hQ φ a w ht hd h (Stp.refl _ _ _))
 | ret =>
  refine ⟨?_, (by intro x y h; cases h), (by intro x y z h; cases h)⟩
  intro m hc ar r φ s s' x a w Q he hA ht hd h hQ
  cases hc
  simp only [exec, Option.some.injEq, Prod.mk.injEq] at he
  obtain ⟨rfl, rfl⟩ := he
  exact wpIn_ret (hQ φ a w ht hd h (Stp.refl _ _ _))
 | rangeFunc f ps c1 c2 ih1 ih2 =>
  refine ⟨?_, (by intro x y h; cases h), (by intro x y z h; cases h)⟩
  intro m hc ar r φ s s' x a w Q he hA ht hd h hQ
  simp only [compC] at hc
  split at hc
  ·rename_i hok
   simp only [Option.bind_eq_some_iff] at hc
   obtain ⟨m1, h1, hc⟩ := hc
   obtain ⟨m2, h2, rfl⟩ := map_some hc
   have hfv := ev_rel ht hok
   simp only [exec] at he
   split at he
   ·rename_i hfn
    have after : ∀ (φ1 : Loc) (M1 : Mem) (w1 : World) (l l' : Nat) (ds1 : List Nat) (a1 : Act) (v : Value) (M' : Mem), Stp φ s.M w φ1 M1 w1 → φ1 l = some (l', 0) → a1.tmps = a.tmps → DRel φ1 ds1 a1.defers → endRange l s.t ds1 M' = some (x, s') →
      ∀ (e : Ending) (w3 : World), Post P idf φ1 M1 w1 v M' e w3 → rangePost (fenceAt r) 0 P l' Q a1 e w3 := by
     rintro φ1 M1 w1 l l' ds1 a1 v M' hs1 hl hat hd1 hend e w3 ⟨φ3, r', rfl, g1, g2, g3⟩
     obtain ⟨e1, e2, jump, w4, k1, k2, k3, k4⟩ := range_end (φ₀ := φ) (M₀ := s.M) (w₀ := w) g2 (g3.ext _ _ hl) hend
     refine ⟨jump, w4, k1, ?_⟩
     have hst := (hs1.trans g3).trans k4
     have hfin : Q x.out a1 w4 := by
      refine hQ φ3 a1 w4 ?_ ?_ k3 hst
      ·rw [e1, hat]; exact ht.mono hst.ext
      ·rw [e2]; exact hd1.mono g3.ext
     subst k2
     cases x with
     | normal => exact hfin
     | exit id => exact wpIn_exit hfin
     | ret => exact wpIn_ret hfin
    obtain ⟨g, first, cap, hfe⟩ := isFn_inv hfv hfn
    have hres : ∀ (l : Nat) (W : World), (resolve a.eval (rangeCall f l) 0).run P W = .ok { target := .fn (.func g) cap, args := first ++ #[.func (.yield l) #[] #[]] } W := by
     intro l W
     have hy : a.eval (.const (.func (.yield l) #[] #[])) = .func (.yield l) #[] #[] := rfl
     simp only [resolve, rangeCall, List.map_toArray, List.map_cons, List.map_nil, hy, hfe, Deferred.ofValue]
     rfl
    refine wpIn_rangeFunc fun fn _ => ?_
    rw [fenceAt_round]
    split at he
    ·-- the outermost
     cases hA
     split at he
     ·rename_i v M' hcall
      obtain ⟨p1, p2⟩ := h.alloc (o := .dblk) (o' := .deferred (some [])) (K := 0) .dblk
      have q1 : (φ.add s.M.size (w.heap.size, 0)) s.M.size = some (w.heap.size, 0) := by simp [Loc.add]
      obtain ⟨p3, p4⟩ := p1.alloc (K := 0) (o := .loop .ready none s.t ps.toList m1 m2 s.M.size) (o' := .loop { state := .ready, pending := none, fn, tmps := a.tmps, params := ps, assign := c1, body := c2, defers := w.heap.size })
       (.loop _ _ _ _ _ _ _ _ w.heap.size 0 rfl rfl (by simp) (ht.mono (fun b x hb => Loc.add_ext p1.none_size b x (p2.ext b x hb))) rfl h1 h2 (Loc.add_ext p1.none_size _ _ q1) rfl)
      have hsz : (w.alloc (.deferred (some []))).heap.size = w.heap.size + 1 := alloc_size _ _
      rw [hsz] at p3 p4
      have hstp := p2.trans p4
      have hly : ((φ.add s.M.size (w.heap.size, 0)).add (s.M.push .dblk).size (w.heap.size + 1, 0)) (s.M.size + 1) = some (w.heap.size + 1, 0) := by simp [Loc.add]
      have hargs : LRel ((φ.add s.M.size (w.heap.size, 0)).add (s.M.push .dblk).size (w.heap.size + 1, 0)) [.func (.yield (s.M.size + 1)) #[] #[]] (#[.func (.yield (w.heap.size + 1)) #[] #[]] : Array Value).toList := .cons (.yield _ _ _ hly) .nil
      rcases CO _ _ _ _ _ _ _ _ _ hcall (hfv.mono hstp.ext) hargs p3 with ⟨g', first', cap', hfe', hcf, hci⟩ | ⟨l', g', tm, as, bd, hfe', _⟩
      ·rw [hfe] at hfe'
       cases hfe'
       refine ⟨w.heap.size + 1, _, _, _, _, g, _, _, run_enterLoop_outer fn a.tmps ps c1 c2, hres _ _, fun f' _ => fenceAt_fn none f', hcf, fun hd => by (rw [fenceAt_depth] at hd; cases hd), callsIn_at (r := none) (hci.mono ?_)⟩
       refine after _ _ _ (s.M.size + 1) (w.heap.size + 1) (s.M.size :: s.ds) _ v M' hstp hly rfl ?_ he
       exact .cons _ _ 0 (p4.ext _ _ q1) (hd.mono hstp.ext)
      ·rw [hfe] at hfe'; cases hfe'
     ·cases he
    ·-- within a round
     rename_i l₀
     cases hA with
     | some _ l₀' K₀ hl0 =>
     split at he
     ·rename_i st0 pend0 tm0 ps0 as0 bd0 d hg
      split at he
      ·rename_i v M' hcall
       obtain ⟨o, o', k1, k2, k3⟩ := h.obj _ _ _ hl0
       rw [hg] at k1; cases k1
       cases k3 with
       | loop _ _ _ _ _ _ _ r0 d' K' z1 z2 z3 z4 z5 z6 z7 z8 z9 =>
        obtain ⟨p3, p4⟩ := h.alloc (K := 0) (o := .loop .ready none s.t ps.toList m1 m2 d) (o' := .loop { state := .ready, pending := none, fn, tmps := a.tmps, params := ps, assign := c1, body := c2, defers := r0.defers })
         (.loop _ _ _ _ _ _ _ _ d' K' rfl rfl (by simp) (ht.mono (Loc.add_ext h.none_size)) rfl h1 h2 (Loc.add_ext h.none_size _ _ z8) z9)
        have hly : (φ.add s.M.size (w.heap.size, 0)) s.M.size = some (w.heap.size, 0) := by simp [Loc.add]
        have hargs : LRel (φ.add s.M.size (w.heap.size, 0)) [.func (.yield s.M.size) #[] #[]] (#[.func (.yield w.heap.size) #[] #[]] : Array Value).toList := .cons (.yield _ _ _ hly) .nil
        rcases CO _ _ _ _ _ _ _ _ _ hcall (hfv.mono p4.ext) hargs p3 with ⟨g', first', cap', hfe', hcf, hci⟩ | ⟨l', g', tm, as, bd, hfe', _⟩
        ·rw [hfe] at hfe'
         cases hfe'
         refine ⟨w.heap.size, _, _, _, _, g, _, _, run_enterLoop_inner k2 fn a.tmps ps c1 c2, hres _ _, fun f' _ => fenceAt_fn (some l₀') f', hcf, fun hd => by (rw [fenceAt_depth] at hd; cases hd), callsIn_at (r := some l₀') (hci.mono ?_)⟩
         exact after _ _ _ s.M.size w.heap.size s.ds _ v M' p4 hly rfl (hd.mono p4.ext) he
        ·rw [hfe] at hfe'; cases hfe'
      ·cases he
     ·cases he
   ·cases he
  ·cases hc
 | scope c ih => exact ⟨(by intro m hc; cases hc), (by intro x y h; cases h), (by intro x y z h; cases h)⟩
 | label l => exact ⟨(by intro m hc; cases hc), (by intro x y h; cases h), (by intro x y z h; cases h)⟩
 | goto l => exact ⟨(by intro m hc; cases hc), (by intro x y h; cases h), (by intro x y z h; cases h)⟩
 | refuse s =>
  refine ⟨?_, (by intro x y h; cases h), (by intro x y z h; cases h)⟩
  intro m hc ar r φ s1 s' x a w Q he; cases hc; simp [exec, ev] at he
theorem code_sound (hmo : P.follows .mixedOrders = true) (CO : CallOK P idf call) (CS : CallStep call) (ID : IdOK P idf) (n : Nat) (c : Code) : GoodC P idf call n c := (code_sound3 hmo CO CS ID n c).1
end
end Go.Proofs.Ytifemfnjoobiiaa.Run
