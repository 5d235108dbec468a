/- The code of a function, and its calls, do what this session's small code says. No statement of the program's is proved here. -/
import Derived.Test.YtklnbkacnghdnaaRunO
namespace Go.Proofs.Ytklnbkacnghdnaa.Run
open Go Go.RowKit
set_option linter.unusedVariables false
set_option linter.unusedSimpArgs false
section
variable {P : Program} {idf : FuncId → Bool} {call : CallF}
inductive ARel (φ : Loc) : Option Nat → Option Nat → Prop
  | none : ARel φ none none
  | some (l l' K : Nat) (h : φ l = some (l', K)) : ARel φ (some l) (some l')
inductive DRel (φ : Loc) : List Nat → List Deferred → Prop
  | nil : DRel φ [] []
  | cons (d c K : Nat) (h : φ d = some (c, K)) {ds : List Nat} {l : List Deferred} (t : DRel φ ds l) : DRel φ (d :: ds) ({ target := .collected c, args := #[] } :: l)
theorem ARel.mono {φ φ' : Loc} (he : ∀ b x, φ b = Option.some x → φ' b = Option.some x) {a b : Option Nat} (h : ARel φ a b) : ARel φ' a b := by
  cases h with
  | none => exact .none
  | some l l' K h => exact .some l l' K (he _ _ h)
theorem DRel.mono {φ φ' : Loc} (he : ∀ b x, φ b = some x → φ' b = some x) {a : List Nat} {b : List Deferred} (h : DRel φ a b) : DRel φ' a b := by
  induction h with
  | nil => exact .nil
  | cons d c K h _ ih => exact .cons d c K (he _ _ h) ih
def XE.out : XE → Exit
  | .normal => .normal
  | .exit id => .exit id
  | .ret => .ret
theorem range_end {φ₀ φ : Loc} {M₀ M : Mem} {w₀ w : World} (h : Rep P idf φ M w) {l l' K : Nat} (hl : φ l = some (l', K)) {t : List Value} {ds : List Nat} {x : XE} {s' : St} (he : endRange l t ds M = some (x, s')) :
    s'.t = t ∧ s'.ds = ds ∧ ∃ jump w', (Instr.endLoop l').run P w = .ok jump w' ∧ jump = x.code ∧ Rep P idf φ s'.M w' ∧ Stp φ M w φ s'.M w' := by
  unfold endRange at he
  split at he
  · rename_i st pend tm ps as bd d hg
    split at he
    · rename_i hc
      obtain ⟨hbase, hbusy⟩ := hc
      simp only [Option.some.injEq, Prod.mk.injEq] at he
      obtain ⟨rfl, rfl⟩ := he
      refine ⟨rfl, rfl, ?_⟩
      obtain ⟨o, o', g1, g2, g3⟩ := h.obj l l' K hl
      rw [hg] at g1; cases g1
      cases g3 with
      | loop _ _ _ _ _ _ _ r d' K' hs hp hne ht hps ha hb hd hdd =>
        have hrun := run_endLoop (P := P) g2 (by rw [hs]; exact hbusy)
        obtain ⟨p1, p2⟩ := h.put hl hbase (o := .loop .exhausted pend tm ps as bd d) (o' := .loop { r with state := .exhausted }) (by rw [hg]; simp)
          (.loop _ _ _ _ _ _ _ _ d' K' rfl hp hne ht hps ha hb hd hdd)
        refine ⟨r.pending, _, hrun, ?_, p1, p2⟩
        rw [hp]
        cases pend with
        | none => rfl
        | some y => cases y <;> first | rfl | exact absurd rfl hne
    · cases he
  · cases he
theorem isFn_inv {φ : Loc} {v v' : Value} (h : VRel φ v v') (hf : isFn v = true) : ∃ f a b, v' = .func (.func f) a b := by
  cases h <;> first | exact ⟨_, _, _, rfl⟩ | cases hf
theorem code_sound (hmo : P.follows .mixedOrders = true) (CO : CallOK P idf call) (CS : CallStep call) (ID : IdOK P idf) (n : Nat) : ∀ (c : Code) (m : MCode), compC P idf c = some m → ∀ (ar r : Option Nat) (φ : Loc) (s s' : St) (x : XE) (a : Act) (w : World) (Q : Exit → Act → World → Prop),
    exec call n ar m s = some (x, s') → ARel φ ar r → LRel φ s.t a.tmps.toList → DRel φ s.ds a.defers → Rep P idf φ s.M w →
    (∀ φ' a' w', LRel φ' s'.t a'.tmps.toList → DRel φ' s'.ds a'.defers → Rep P idf φ' s'.M w' → Stp φ s.M w φ' s'.M w' → Q x.out a' w') → c.wpIn (fenceAt r) 0 P Q a w := by
  intro c
  induction c with
  | skip =>
    intro m hc ar r φ s s' x a w Q he hA ht hd h hQ
    cases hc
    simp only [exec, Option.some.injEq, Prod.mk.injEq] at he
    obtain ⟨rfl, rfl⟩ := he
    exact wpIn_skip (hQ φ a w ht hd h (Stp.refl _ _ _))
  | region id ops draw =>
    intro m hc ar r φ s s' x a w Q he hA ht hd h hQ
    simp only [compC] at hc
    obtain ⟨ms, hms, rfl⟩ := map_some hc
    have plain : ∀ d : Bool, exec call n ar (.region d ms) s = some (x, s') → (Code.region id ops draw).wpIn (fenceAt r) 0 P Q a w := fun d he => by
      simp only [exec] at he
      split at he
      · rename_i t M hr
        simp only [Option.some.injEq, Prod.mk.injEq] at he
        obtain ⟨rfl, rfl⟩ := he
        exact region_sound hmo CO CS ID hms hr ht h fun φ' a' w' g1 g2 g3 g4 => hQ φ' a' w' g1 (by rw [g2]; exact hd.mono g4.ext) g3 g4
      · cases he
    cases draw with
    | false => exact plain false he
    | true =>
      simp only [if_true] at he
      unfold fluxC at he
      split at he
      · exact plain true he
      · rename_i hcond
        simp only [Bool.or_eq_true, not_or, Bool.not_eq_true, Bool.not_eq_false'] at hcond
        obtain ⟨⟨_, hq01⟩, huq⟩ := hcond
        simp only [exec] at he
        cases hr : runOps call (fluxed (fluxes ops.toList ms) ms) s.t s.M with
        | none => rw [hr] at he; cases he
        | some p =>
          obtain ⟨t1, M1⟩ := p
          rw [hr] at he
          simp only at he
          cases hr2 : runOps call (lates (fluxes ops.toList ms)) t1 M1 with
          | none => rw [hr2] at he; cases he
          | some p2 =>
            obtain ⟨t2, M2⟩ := p2
            rw [hr2] at he
            simp only [Option.some.injEq, Prod.mk.injEq] at he
            obtain ⟨rfl, rfl⟩ := he
            exact flux_sound hmo CO CS ID hms hq01 huq hr hr2 ht h fun φ' a' w' g1 g2 g3 g4 => hQ φ' a' w' g1 (by rw [g2]; exact hd.mono g4.ext) g3 g4
  | seq c1 c2 ih1 ih2 =>
    intro m hc ar r φ s s' x a w Q he hA ht hd h hQ
    simp only [compC, Option.bind_eq_some_iff] at hc
    obtain ⟨m1, h1, hc⟩ := hc
    obtain ⟨m2, h2, rfl⟩ := map_some hc
    simp only [exec] at he
    refine wpIn_seq ?_
    split at he
    · rename_i s1 e1
      refine ih1 m1 h1 ar r φ s s1 .normal a w _ e1 hA ht hd h fun φ' a' w' g1 g2 g3 g4 => ?_
      exact ih2 m2 h2 ar r φ' s1 s' x a' w' Q he (hA.mono g4.ext) g1 g2 g3 fun φ2 a2 w2 k1 k2 k3 k4 => hQ φ2 a2 w2 k1 k2 k3 (g4.trans k4)
    · rename_i q hne
      refine ih1 m1 h1 ar r φ s s' x a w _ he hA ht hd h fun φ' a' w' g1 g2 g3 g4 => ?_
      have := hQ φ' a' w' g1 g2 g3 g4
      cases x with
      | normal => exact absurd he (hne _)
      | exit id => exact this
      | ret => exact this
  | cond cv c1 c2 ih1 ih2 =>
    intro m hc ar r φ s s' x a w Q he hA ht hd h hQ
    simp only [compC] at hc
    split at hc
    · rename_i hok
      simp only [Option.bind_eq_some_iff] at hc
      obtain ⟨m1, h1, hc⟩ := hc
      obtain ⟨m2, h2, rfl⟩ := map_some hc
      have hcv := ev_rel ht hok
      simp only [exec] at he
      split at he
      · rename_i hb
        rw [hb] at hcv
        generalize hce : a.eval cv = y at hcv
        cases hcv
        exact wpIn_cond_true hce (ih1 m1 h1 ar r φ s s' x a w Q he hA ht hd h hQ)
      · rename_i hb
        rw [hb] at hcv
        generalize hce : a.eval cv = y at hcv
        cases hcv
        exact wpIn_cond_false hce (ih2 m2 h2 ar r φ s s' x a w Q he hA ht hd h hQ)
      · cases he
    · cases hc
  | block id c1 ih =>
    intro m hc ar r φ s s' x a w Q he hA ht hd h hQ
    simp only [compC] at hc
    obtain ⟨m1, h1, rfl⟩ := map_some hc
    simp only [exec] at he
    refine wpIn_block ?_
    split at he
    · rename_i i s1 e1
      refine ih m1 h1 ar r φ s s1 (.exit i) a w _ e1 hA ht hd h fun φ' a' w' g1 g2 g3 g4 => ?_
      show (if i = id then Q .normal a' w' else Q (.exit i) a' w')
      split at he
      · rename_i hi
        simp only [Option.some.injEq, Prod.mk.injEq] at he
        obtain ⟨rfl, rfl⟩ := he
        rw [if_pos hi]
        exact hQ φ' a' w' g1 g2 g3 g4
      · rename_i hi
        simp only [Option.some.injEq, Prod.mk.injEq] at he
        obtain ⟨rfl, rfl⟩ := he
        rw [if_neg hi]
        exact hQ φ' a' w' g1 g2 g3 g4
    · rename_i q hne
      refine ih m1 h1 ar r φ s s' x a w _ he hA ht hd h fun φ' a' w' g1 g2 g3 g4 => ?_
      have := hQ φ' a' w' g1 g2 g3 g4
      cases x with
      | normal => exact this
      | exit i => exact absurd he (hne _ _)
      | ret => exact this
  | loop c1 ih =>
    intro m hc ar r φ s s' x a w Q he hA ht hd h hQ
    simp only [compC] at hc
    obtain ⟨m1, h1, rfl⟩ := map_some hc
    simp only [exec] at he
    refine wpIn_loop_rounds n ?_
    have key : ∀ (k : Nat) (φ : Loc) (s : St) (a : Act) (w : World), loopN (exec call n ar m1) k s = some (x, s') → ARel φ ar r → LRel φ s.t a.tmps.toList → DRel φ s.ds a.defers → Rep P idf φ s.M w →
        (∀ φ' a' w', LRel φ' s'.t a'.tmps.toList → DRel φ' s'.ds a'.defers → Rep P idf φ' s'.M w' → Stp φ s.M w φ' s'.M w' → Q x.out a' w') → Code.roundsIn (fenceAt r) 0 P c1 Q k a w := by
      intro k
      induction k with
      | zero => intro φ s a w he; simp [loopN] at he
      | succ k ihk =>
        intro φ s a w he hA ht hd h hQ
        simp only [loopN] at he
        rw [roundsIn_succ]
        split at he
        · rename_i s1 e1
          refine ih m1 h1 ar r φ s s1 .normal a w _ e1 hA ht hd h fun φ' a' w' g1 g2 g3 g4 => ?_
          exact ihk φ' s1 a' w' he (hA.mono g4.ext) g1 g2 g3 fun φ2 a2 w2 k1 k2 k3 k4 => hQ φ2 a2 w2 k1 k2 k3 (g4.trans k4)
        · rename_i q hne
          refine ih m1 h1 ar r φ s s' x a w _ he hA ht hd h fun φ' a' w' g1 g2 g3 g4 => ?_
          have := hQ φ' a' w' g1 g2 g3 g4
          cases x with
          | normal => exact absurd he (hne _)
          | exit i => exact this
          | ret => exact this
    exact key n φ s a w he hA ht hd h hQ
  | exit id =>
    intro m hc ar r φ s s' x a w Q he hA ht hd h hQ
    cases hc
    simp only [exec, Option.some.injEq, Prod.mk.injEq] at he
    obtain ⟨rfl, rfl⟩ := he
    exact wpIn_exit (hQ φ a w ht hd h (Stp.refl _ _ _))
  | ret =>
    intro m hc ar r φ s s' x a w Q he hA ht hd h hQ
    cases hc
    simp only [exec, Option.some.injEq, Prod.mk.injEq] at he
    obtain ⟨rfl, rfl⟩ := he
    exact wpIn_ret (hQ φ a w ht hd h (Stp.refl _ _ _))
  | rangeFunc f ps c1 c2 ih1 ih2 =>
    intro m hc ar r φ s s' x a w Q he hA ht hd h hQ
    simp only [compC] at hc
    split at hc
    · rename_i hok
      simp only [Option.bind_eq_some_iff] at hc
      obtain ⟨m1, h1, hc⟩ := hc
      obtain ⟨m2, h2, rfl⟩ := map_some hc
      have hfv := ev_rel ht hok
      simp only [exec] at he
      split at he
      · rename_i hfn
        have after : ∀ (φ1 : Loc) (M1 : Mem) (w1 : World) (l l' : Nat) (ds1 : List Nat) (a1 : Act) (v : Value) (M' : Mem), Stp φ s.M w φ1 M1 w1 → φ1 l = some (l', 0) → a1.tmps = a.tmps → DRel φ1 ds1 a1.defers → endRange l s.t ds1 M' = some (x, s') →
            ∀ (e : Ending) (w3 : World), Post P idf φ1 M1 w1 v M' e w3 → rangePost (fenceAt r) 0 P l' Q a1 e w3 := by
          rintro φ1 M1 w1 l l' ds1 a1 v M' hs1 hl hat hd1 hend e w3 ⟨φ3, r', rfl, g1, g2, g3⟩
          obtain ⟨e1, e2, jump, w4, k1, k2, k3, k4⟩ := range_end (φ₀ := φ) (M₀ := s.M) (w₀ := w) g2 (g3.ext _ _ hl) hend
          refine ⟨jump, w4, k1, ?_⟩
          have hst := (hs1.trans g3).trans k4
          have hfin : Q x.out a1 w4 := by
            refine hQ φ3 a1 w4 ?_ ?_ k3 hst
            · rw [e1, hat]; exact ht.mono hst.ext
            · rw [e2]; exact hd1.mono g3.ext
          subst k2
          cases x with
          | normal => exact hfin
          | exit id => exact wpIn_exit hfin
          | ret => exact wpIn_ret hfin
        obtain ⟨g, first, cap, hfe⟩ := isFn_inv hfv hfn
        have hres : ∀ (l : Nat) (W : World), (resolve a.eval (rangeCall f l) 0).run P W = .ok { target := .fn (.func g) cap, args := first ++ #[.func (.yield l) #[] #[]] } W := by
          intro l W
          have hy : a.eval (.const (.func (.yield l) #[] #[])) = .func (.yield l) #[] #[] := rfl
          simp only [resolve, rangeCall, List.map_toArray, List.map_cons, List.map_nil, hy, hfe, Deferred.ofValue]
          rfl
        refine wpIn_rangeFunc fun fn _ => ?_
        rw [fenceAt_round]
        split at he
        · -- the outermost
          cases hA
          split at he
          · rename_i v M' hcall
            obtain ⟨p1, p2⟩ := h.alloc (o := .dblk) (o' := .deferred (some [])) (K := 0) .dblk
            have q1 : (φ.add s.M.size (w.heap.size, 0)) s.M.size = some (w.heap.size, 0) := by simp [Loc.add]
            obtain ⟨p3, p4⟩ := p1.alloc (K := 0) (o := .loop .ready none s.t ps.toList m1 m2 s.M.size) (o' := .loop { state := .ready, pending := none, fn, tmps := a.tmps, params := ps, assign := c1, body := c2, defers := w.heap.size })
              (.loop _ _ _ _ _ _ _ _ w.heap.size 0 rfl rfl (by simp) (ht.mono (fun b x hb => Loc.add_ext p1.none_size b x (p2.ext b x hb))) rfl h1 h2 (Loc.add_ext p1.none_size _ _ q1) rfl)
            have hsz : (w.alloc (.deferred (some []))).heap.size = w.heap.size + 1 := alloc_size _ _
            rw [hsz] at p3 p4
            have hstp := p2.trans p4
            have hly : ((φ.add s.M.size (w.heap.size, 0)).add (s.M.push .dblk).size (w.heap.size + 1, 0)) (s.M.size + 1) = some (w.heap.size + 1, 0) := by simp [Loc.add]
            have hargs : LRel ((φ.add s.M.size (w.heap.size, 0)).add (s.M.push .dblk).size (w.heap.size + 1, 0)) [.func (.yield (s.M.size + 1)) #[] #[]] (#[.func (.yield (w.heap.size + 1)) #[] #[]] : Array Value).toList := .cons (.yield _ _ _ hly) .nil
            rcases CO _ _ _ _ _ _ _ _ _ hcall (hfv.mono hstp.ext) hargs p3 with ⟨g', first', cap', hfe', hcf, hci⟩ | ⟨l', g', tm, as, bd, hfe', _⟩
            · rw [hfe] at hfe'
              cases hfe'
              refine ⟨w.heap.size + 1, _, _, _, _, g, _, _, run_enterLoop_outer fn a.tmps ps c1 c2, hres _ _, fun f' _ => fenceAt_fn none f', hcf, fun hd => by (rw [fenceAt_depth] at hd; cases hd), callsIn_at (r := none) (hci.mono ?_)⟩
              refine after _ _ _ (s.M.size + 1) (w.heap.size + 1) (s.M.size :: s.ds) _ v M' hstp hly rfl ?_ he
              exact .cons _ _ 0 (p4.ext _ _ q1) (hd.mono hstp.ext)
            · rw [hfe] at hfe'; cases hfe'
          · cases he
        · -- within a round
          rename_i l₀
          cases hA with
          | some _ l₀' K₀ hl0 =>
          split at he
          · rename_i st0 pend0 tm0 ps0 as0 bd0 d hg
            split at he
            · rename_i v M' hcall
              obtain ⟨o, o', k1, k2, k3⟩ := h.obj _ _ _ hl0
              rw [hg] at k1; cases k1
              cases k3 with
              | loop _ _ _ _ _ _ _ r0 d' K' z1 z2 z3 z4 z5 z6 z7 z8 z9 =>
                obtain ⟨p3, p4⟩ := h.alloc (K := 0) (o := .loop .ready none s.t ps.toList m1 m2 d) (o' := .loop { state := .ready, pending := none, fn, tmps := a.tmps, params := ps, assign := c1, body := c2, defers := r0.defers })
                  (.loop _ _ _ _ _ _ _ _ d' K' rfl rfl (by simp) (ht.mono (Loc.add_ext h.none_size)) rfl h1 h2 (Loc.add_ext h.none_size _ _ z8) z9)
                have hly : (φ.add s.M.size (w.heap.size, 0)) s.M.size = some (w.heap.size, 0) := by simp [Loc.add]
                have hargs : LRel (φ.add s.M.size (w.heap.size, 0)) [.func (.yield s.M.size) #[] #[]] (#[.func (.yield w.heap.size) #[] #[]] : Array Value).toList := .cons (.yield _ _ _ hly) .nil
                rcases CO _ _ _ _ _ _ _ _ _ hcall (hfv.mono p4.ext) hargs p3 with ⟨g', first', cap', hfe', hcf, hci⟩ | ⟨l', g', tm, as, bd, hfe', _⟩
                · rw [hfe] at hfe'
                  cases hfe'
                  refine ⟨w.heap.size, _, _, _, _, g, _, _, run_enterLoop_inner k2 fn a.tmps ps c1 c2, hres _ _, fun f' _ => fenceAt_fn (some l₀') f', hcf, fun hd => by (rw [fenceAt_depth] at hd; cases hd), callsIn_at (r := some l₀') (hci.mono ?_)⟩
                  exact after _ _ _ s.M.size w.heap.size s.ds _ v M' p4 hly rfl (hd.mono p4.ext) he
                · rw [hfe] at hfe'; cases hfe'
            · cases he
          · cases he
      · cases he
    · cases hc
  | scope c ih => intro m hc; cases hc
  | label l => intro m hc; cases hc
  | goto l => intro m hc; cases hc
  | refuse s => intro m hc ar r φ s1 s' x a w Q he; cases hc; simp [exec, ev] at he
end
end Go.Proofs.Ytklnbkacnghdnaa.Run
